/- Part 9 of the evaluator of the given model: its rules and their soundness (no condition). -/
import Derived.Test.YtfcldaojfbbaoaaDoorEvH
set_option linter.unusedVariables false
set_option linter.unusedSimpArgs false
set_option linter.unnecessarySimpa false
/- The machine's rules: memory. -/
set_option linter.unusedSimpArgs false
set_option linter.unusedVariables false
namespace Ev
open Go (Value Addr Fn IntKind Oper Op Operand Code Tmp BinOp UnOp Builtin)

section
variable (E : Env) (H : Heap)

/-! lengths -/
def lenO : Option Obj → Nat → Option Nat
  | some (.row _ xs _), lo => if lo ≤ xs.length then some (xs.length - lo) else none
  | some (.mrow _ xs), lo => if lo ≤ xs.length then some (xs.length - lo) else none
  | _, _ => none
def lenM : Option Obj → Option Nat
  | some (.map _ _ es) => some es.length
  | _ => none
def aliveO : Option Obj → Bool
  | some o => o.alive
  | none => false
def lenT (H : Heap) : Option Ty → AV → Option Nat
  | some ⟨.slice _, _, _, _⟩, .p (.sl _ xs) => some xs.length
  | some ⟨.slice _, _, _, _⟩, .own b lo => lenO H[b]? lo
  | some ⟨.slice _, _, _, _⟩, .win b _ _ _ len _ _ => br (aliveO H[b]?) (some len) none
  | some ⟨.slice _, _, _, _⟩, .nils _ => some 0
  | some ⟨.str, _, _, _⟩, .p (.str s) => some s.size
  | some ⟨.map _ _, _, _, _⟩, .map b => lenM H[b]?
  | some ⟨.map _ _, _, _, _⟩, .nilm => some 0
  | _, _ => none
theorem lenV_eq (t : Nat) (x : AV) : E.lenV H t x = lenT H (E.ty t) x := by
  unfold Env.lenV Env.lenOk lenA
  cases E.ty t with
  | none => simp [lenT]
  | some ty =>
    obtain ⟨k, c, b, z⟩ := ty
    cases x with
    | p d => cases k <;> cases d <;> simp [lenT]
    | own b lo =>
      cases k <;> simp [lenT]
      cases H[b]? with
      | none => rfl
      | some o => cases o <;> simp [lenO, Obj.rowLen]
    | win b _ _ _ len _ _ =>
      cases k <;> simp [lenT]
      cases H[b]? with
      | none => rfl
      | some o => cases ho : o.alive <;> simp [aliveO, ho, br]
    | map b =>
      cases k <;> simp [lenT]
      cases H[b]? with
      | none => rfl
      | some o => cases o <;> rfl
    | _ => cases k <;> simp [lenT]
section
variable (e c b lo n : Nat) (z : AV)
theorem lenT_sl (xs : List PD) : lenT H (some ⟨.slice e, c, b, z⟩) (.p (.sl n xs)) = some xs.length := rfl
theorem lenT_own (i : Nat) : lenT H (some ⟨.slice e, c, b, z⟩) (.own i lo) = lenO H[i]? lo := rfl
theorem lenT_win (i lo len cap n : Nat) (π : List Stp) (x : Bool) : lenT H (some ⟨.slice e, c, b, z⟩) (.win i π n lo len cap x) = br (aliveO H[i]?) (some len) none := rfl
theorem lenT_nils : lenT H (some ⟨.slice e, c, b, z⟩) (.nils n) = some 0 := rfl
theorem lenT_str (s : ByteArray) : lenT H (some ⟨.str, c, b, z⟩) (.p (.str s)) = some s.size := rfl
theorem lenT_map (k i : Nat) : lenT H (some ⟨.map k e, c, b, z⟩) (.map i) = lenM H[i]? := rfl
theorem lenT_nilm (k : Nat) : lenT H (some ⟨.map k e, c, b, z⟩) .nilm = some 0 := rfl
theorem lenO_row (xs : List PD) (s : Bool) : lenO (some (.row e xs s)) 0 = some xs.length := rfl
theorem lenO_mrow (xs : List AV) : lenO (some (.mrow e xs)) 0 = some xs.length := rfl
theorem lenM_map (k v : Nat) (es : List (PD × PD)) : lenM (some (.map k v es)) = some es.length := rfl
theorem aliveO_var (t : AV) (s : Bool) : aliveO (some (.var t s)) = true := rfl
theorem aliveO_row (xs : List PD) (s : Bool) : aliveO (some (.row e xs s)) = true := rfl
end

/-! elements -/
def inBr (i : Int) (n : Nat) : Bool := decide (0 ≤ i) && decide (i < (n : Int))
def ixO : Option Obj → (b e lo : Nat) → Int → Option AV
  | some o, b, e, lo, i => (o.rowLen).bind fun x => if x.1 = e ∧ inB i (x.2 - lo) = true ∧ lo ≤ x.2 then some (.ref b [.idx (lo + i.toNat) e]) else none
  | none, _, _, _, _ => none
def ppOf : AV → Option AV
  | .p d => some (.pp d)
  | _ => none
def ixT (E : Env) (H : Heap) : Option Ty → AV → Int → Option AV
  | some ⟨.slice e, _, _, _⟩, x, i => bd (E.ty e) fun et => idxA H et.cells x i
  | some ⟨.array n e, _, _, _⟩, .ref b π, i => bd (E.ty e) fun et => br (inB i n) (some (.ref b (π ++ [.idx i.toNat et.cells]))) none
  | some ⟨.array n e, _, _, _⟩, .pp d, i => bd (E.ty e) fun et => br (inB i n) (bd (AV.get (.p d) [.idx i.toNat et.cells]) ppOf) none
  | _, _, _ => none
theorem indexAddr_eq (t : Nat) (x : AV) (i : Int) : E.indexAddrA H t x i = ixT E H (E.ty t) x i := by
  unfold Env.indexAddrA
  cases E.ty t with
  | none => rfl
  | some ty =>
    obtain ⟨k, c, b, z⟩ := ty
    cases k with
    | array n e =>
      cases x with
      | ref b π => simp only [ixT, bd, br]
      | pp d =>
        simp only [ixT, bd, br]
        cases E.ty e with
        | none => rfl
        | some et =>
          simp only [Option.bind_some]
          split
          · congr 1
          · rfl
      | _ => simp only [ixT]; cases E.ty e <;> simp
    | slice e => rfl
    | _ => rfl
section
variable (e c b : Nat) (z : AV) (i : Int)
theorem ixT_slice (x : AV) : ixT E H (some ⟨.slice e, c, b, z⟩) x i = bd (E.ty e) fun et => idxA H et.cells x i := rfl
theorem ixT_arr (n j : Nat) (π : List Stp) : ixT E H (some ⟨.array n e, c, b, z⟩) (.ref j π) i = bd (E.ty e) fun et => br (inB i n) (some (.ref j (π ++ [.idx i.toNat et.cells]))) none := rfl
theorem ixT_arrp (n : Nat) (d : PD) : ixT E H (some ⟨.array n e, c, b, z⟩) (.pp d) i = bd (E.ty e) fun et => br (inB i n) (bd (AV.get (.p d) [.idx i.toNat et.cells]) ppOf) none := rfl
theorem ppOf_p (d : PD) : ppOf (.p d) = some (.pp d) := rfl
theorem idxA_sl {α : Type} (f : α → PD) (l : List α) : idxA H e (.p (.sl e (List.map f l))) i = bd (gi l i) fun x => some (.pp (f x)) := by
  simp only [idxA, gi, true_and]
  by_cases h : 0 ≤ i
  · rw [if_pos h, if_pos h, List.getElem?_map]; cases l[i.toNat]? <;> rfl
  · rw [if_neg h, if_neg h]; rfl
theorem idxA_own (j : Nat) : idxA H e (.own j 0) i = ixO H[j]? j e 0 i := by
  simp only [idxA]
  cases H[j]? <;> rfl
theorem ixO_row (xs : List PD) (s : Bool) (j : Nat) : ixO (some (.row e xs s)) j e 0 i = br (inB i xs.length) (some (.ref j [.idx i.toNat e])) none := by
  simp only [ixO, Obj.rowLen, Option.bind_some, Nat.sub_zero, Nat.zero_le, and_true, true_and, Nat.zero_add, br]
theorem ixO_mrow (xs : List AV) (j : Nat) : ixO (some (.mrow e xs)) j e 0 i = br (inB i xs.length) (some (.ref j [.idx i.toNat e])) none := by
  simp only [ixO, Obj.rowLen, Option.bind_some, Nat.sub_zero, Nat.zero_le, and_true, true_and, Nat.zero_add, br]
theorem idxA_win (j lo len cap : Nat) (π : List Stp) (x : Bool) : idxA H e (.win j π e lo len cap x) i = br (aliveO H[j]?) (br (inB i len) (some (.ref j (π ++ [.idx (lo + i.toNat) e]))) none) none := by
  simp only [idxA]
  cases H[j]? with
  | none => rfl
  | some o =>
    simp only [Option.bind_some, true_and, br, aliveO]
    by_cases h : o.alive = true <;> simp [h]
end

/-! loads -/
def aggK : TyK → Bool
  | .struct _ => true
  | .array .. => true
  | _ => false
theorem fits_eq (k : TyK) (c b : Nat) (z v : AV) : Ty.fits ⟨k, c, b, z⟩ v = (v.cells == some c && v.isAgg == aggK k) := by
  unfold Ty.fits Ty.agg aggK; cases k <;> rfl
theorem aggK_int (k : IntKind) : aggK (.int k) = false := rfl
theorem aggK_bool : aggK .bool = false := rfl
theorem aggK_str : aggK .str = false := rfl
theorem aggK_struct (l : List (Nat × Nat)) : aggK (.struct l) = true := rfl
theorem aggK_array (n e : Nat) : aggK (.array n e) = true := rfl
theorem aggK_slice (e : Nat) : aggK (.slice e) = false := rfl
theorem aggK_ptr (e : Nat) : aggK (.ptr e) = false := rfl
theorem aggK_map (k e : Nat) : aggK (.map k e) = false := rfl
theorem aggK_func : aggK .func = false := rfl
theorem aggK_iface : aggK .iface = false := rfl
section
variable (a b c d e : Nat) (π : List Stp) (x : Bool) (vs ws : List AV) (g : Fn) (v : AV)
theorem cells_p (d : PD) : (AV.p d).cells = some d.cells := rfl
theorem cells_agg (sz : List Nat) : (AV.agg sz vs).cells = some sz.sum := rfl
theorem cells_ref : (AV.ref b π).cells = some 1 := rfl
theorem cells_pp (d : PD) : (AV.pp d).cells = some 1 := rfl
theorem cells_own : (AV.own a b).cells = some 1 := rfl
theorem cells_win : (AV.win a π b c d e x).cells = some 1 := rfl
theorem cells_nils : (AV.nils a).cells = some 1 := rfl
theorem cells_nilp : AV.nilp.cells = some 1 := rfl
theorem cells_nilm : AV.nilm.cells = some 1 := rfl
theorem cells_map : (AV.map a).cells = some 1 := rfl
theorem cells_clo : (AV.clo g vs ws).cells = some 1 := rfl
theorem cells_yld : (AV.yld a).cells = some 1 := rfl
theorem cells_iface : (AV.iface a v).cells = some 1 := rfl
theorem isAgg_p (d : PD) : (AV.p d).isAgg = d.isAgg := rfl
theorem isAgg_agg (sz : List Nat) : (AV.agg sz vs).isAgg = true := rfl
theorem isAgg_ref : (AV.ref b π).isAgg = false := rfl
theorem isAgg_pp (d : PD) : (AV.pp d).isAgg = false := rfl
theorem isAgg_own : (AV.own a b).isAgg = false := rfl
theorem isAgg_win : (AV.win a π b c d e x).isAgg = false := rfl
theorem isAgg_nils : (AV.nils a).isAgg = false := rfl
theorem isAgg_nilp : AV.nilp.isAgg = false := rfl
theorem isAgg_nilm : AV.nilm.isAgg = false := rfl
theorem isAgg_map : (AV.map a).isAgg = false := rfl
theorem isAgg_clo : (AV.clo g vs ws).isAgg = false := rfl
theorem isAgg_yld : (AV.yld a).isAgg = false := rfl
theorem isAgg_iface : (AV.iface a v).isAgg = false := rfl
end
theorem pcells_int (k : IntKind) (n : Int) : (PD.int k n).cells = 1 := rfl
theorem pcells_bool (b : Bool) : (PD.bool b).cells = 1 := rfl
theorem pcells_str (b : ByteArray) : (PD.str b).cells = 1 := rfl
theorem pcells_agg (sz : List Nat) (l : List PD) : (PD.agg sz l).cells = sz.sum := rfl
theorem pcells_iarr (k : IntKind) (n : Nat) (l : List Int) : (PD.iarr k n l).cells = n := rfl
theorem pcells_arr (e n : Nat) (l : List PD) : (PD.arr e n l).cells = e * n := rfl
theorem pcells_sl (e : Nat) (l : List PD) : (PD.sl e l).cells = 1 := rfl
theorem pcells_fn (f : Fn) : (PD.fn f).cells = 1 := rfl
theorem pcells_nilf : PD.nilf.cells = 1 := rfl
theorem pcells_nili : PD.nili.cells = 1 := rfl
theorem pagg_int (k : IntKind) (n : Int) : (PD.int k n).isAgg = false := rfl
theorem pagg_bool (b : Bool) : (PD.bool b).isAgg = false := rfl
theorem pagg_str (b : ByteArray) : (PD.str b).isAgg = false := rfl
theorem pagg_agg (sz : List Nat) (l : List PD) : (PD.agg sz l).isAgg = true := rfl
theorem pagg_iarr (k : IntKind) (n : Nat) (l : List Int) : (PD.iarr k n l).isAgg = true := rfl
theorem pagg_arr (e n : Nat) (l : List PD) : (PD.arr e n l).isAgg = true := rfl
theorem pagg_sl (e : Nat) (l : List PD) : (PD.sl e l).isAgg = false := rfl
theorem pagg_fn (f : Fn) : (PD.fn f).isAgg = false := rfl
theorem pagg_nilf : PD.nilf.isAgg = false := rfl
theorem pagg_nili : PD.nili.isAgg = false := rfl
theorem pflat_int (k : IntKind) (n : Int) : (PD.int k n).flat = true := rfl
theorem pflat_bool (b : Bool) : (PD.bool b).flat = true := rfl
theorem pflat_str (b : ByteArray) : (PD.str b).flat = true := rfl
theorem pflat_iarr (k : IntKind) (n : Nat) (l : List Int) : (PD.iarr k n l).flat = true := rfl
theorem pflat_arr (e n : Nat) (l : List PD) : (PD.arr e n l).flat = false := rfl
theorem pflat_sl (e : Nat) (l : List PD) : (PD.sl e l).flat = false := rfl
theorem pflat_fn (f : Fn) : (PD.fn f).flat = true := rfl
def flatV : AV → Bool
  | .p d => d.flat
  | _ => false
theorem flat_p (d : PD) : (AV.p d).flat = d.flat := rfl
theorem flat_tup (vs : List AV) : (AV.tup vs).flat = vs.all flatV := by
  unfold AV.flat; congr 1
theorem flatV_p (d : PD) : flatV (.p d) = d.flat := rfl
theorem flat_own (a b : Nat) : (AV.own a b).flat = false := rfl

def ldO (ty : Ty) : Option Obj → List Stp → Option AV
  | some o, π => bd (o.get π) fun v => br (ty.fits v) (some v) none
  | none, _ => none
def ldT (H : Heap) : Option Ty → AV → Option AV
  | some ty, .ref b π => ldO ty H[b]? π
  | some ty, .pp d => br (ty.fits (.p d)) (some (.p d)) none
  | _, _ => none
theorem load_eq (t : Nat) (x : AV) : E.loadA H t x = ldT H (E.ty t) x := by
  unfold Env.loadA
  cases E.ty t with
  | none => cases x <;> rfl
  | some ty =>
    cases x with
    | ref b π =>
      simp only [ldT, Option.bind_some]
      cases H[b]? with
      | none => rfl
      | some o => simp only [ldO, bd, br, Option.bind_some]
    | pp d => rfl
    | _ => rfl
theorem ldT_ref (ty : Ty) (b : Nat) (π : List Stp) : ldT H (some ty) (.ref b π) = ldO ty H[b]? π := rfl
theorem ldT_pp (ty : Ty) (d : PD) : ldT H (some ty) (.pp d) = br (ty.fits (.p d)) (some (.p d)) none := rfl
theorem ldO_some (ty : Ty) (o : Obj) (π : List Stp) : ldO ty (some o) π = bd (o.get π) fun v => br (ty.fits v) (some v) none := rfl
theorem oget_var (t : AV) (s : Bool) (π : List Stp) : Obj.get (.var t s) π = AV.get t π := rfl
theorem oget_row {α : Type} (f : α → PD) (l : List α) (e i : Nat) (s : Bool) (π : List Stp) : Obj.get (.row e (List.map f l) s) (.idx i e :: π) = bd (l[i]?) fun x => AV.get (.p (f x)) π := by
  simp only [Obj.get, if_true, List.getElem?_map, bd]; cases l[i]? <;> rfl
theorem oget_mrow (xs : List AV) (e i : Nat) (π : List Stp) : Obj.get (.mrow e xs) (.idx i e :: π) = bd (xs[i]?) fun x => AV.get x π := by
  simp only [Obj.get, if_true, bd]
theorem get_nil (v : AV) : AV.get v [] = some v := by unfold AV.get; rfl
theorem get_agg (sz : List Nat) (fs : List AV) (i o : Nat) (π : List Stp) : AV.get (.agg sz fs) (.fld i o :: π) = br (decide ((sz.take i).sum = o)) (bd fs[i]? fun d => AV.get d π) none := by
  simp only [AV.get, br, bd, decide_eq_true_eq]
theorem get_pagg (sz : List Nat) (fs : List PD) (i o : Nat) (π : List Stp) : AV.get (.p (.agg sz fs)) (.fld i o :: π) = br (decide ((sz.take i).sum = o)) (bd fs[i]? fun d => AV.get (.p d) π) none := by
  simp only [AV.get, br, bd, decide_eq_true_eq]
theorem get_iarr (k : IntKind) (n i : Nat) (l : List Int) (π : List Stp) : AV.get (.p (.iarr k n l)) (.idx i 1 :: π) = bd (l[i]?) fun m => AV.get (.p (.int k m)) π := by
  simp only [AV.get, if_true, bd]
theorem get_arr {α : Type} (f : α → PD) (l : List α) (e n i : Nat) (π : List Stp) : AV.get (.p (.arr e n (List.map f l))) (.idx i e :: π) = bd (l[i]?) fun x => AV.get (.p (f x)) π := by
  simp only [AV.get, if_true, List.getElem?_map, bd]; cases l[i]? <;> rfl
theorem get_aggi (sz : List Nat) (fs : List AV) (i e : Nat) (π : List Stp) : AV.get (.agg sz fs) (.idx i e :: π) = br (decide ((sz.take i).sum = i * e)) (bd fs[i]? fun d => AV.get d π) none := by
  simp only [AV.get, br, bd, decide_eq_true_eq]

/-! fields' addresses -/
def fdV (o : Nat) : AV → Nat → Option AV
  | .ref b π, i => some (.ref b (π ++ [.fld i o]))
  | .pp d, i => bd (AV.get (.p d) [.fld i o]) ppOf
  | _, _ => none
def fdT (E : Env) : Option Ty → AV → Nat → Option AV
  | some ⟨.struct fs, _, _, _⟩, x, i => bd fs[i]? fun f => bd (E.ty f.2) fun ft => br (decide (ft.cells = 0)) none (fdV f.1 x i)
  | _, _, _ => none
theorem fieldAddr_eq (t : Nat) (x : AV) (i : Nat) (h : ∀ d, x = .pp d → ∃ sz fs, d = .agg sz fs) : E.fieldAddrA t x i = fdT E (E.ty t) x i := by
  unfold Env.fieldAddrA
  cases E.ty t with
  | none => rfl
  | some ty =>
    obtain ⟨k, c, b, z⟩ := ty
    cases k with
    | struct fs =>
      simp only [fdT, bd]
      cases fs[i]? with
      | none => rfl
      | some f =>
        simp only [Option.bind_some]
        cases E.ty f.2 with
        | none => rfl
        | some ft =>
          simp only [Option.bind_some, br, decide_eq_true_eq]
          split
          · rfl
          · cases x with
            | pp d =>
              obtain ⟨sz, fs', rfl⟩ := h d rfl
              simp only [fdV, get_pagg, br, bd, decide_eq_true_eq]
              split
              · cases fs'[i]? with
                | none => rfl
                | some d => simp only [Option.bind_some, get_nil]; rfl
              · rfl
            | _ => rfl
    | _ => rfl
theorem fieldAddr_ref (t b i : Nat) (π : List Stp) : E.fieldAddrA t (.ref b π) i = fdT E (E.ty t) (.ref b π) i := fieldAddr_eq E t _ i (fun d h => by cases h)
theorem fieldAddr_agg (t i : Nat) (sz : List Nat) (fs : List PD) : E.fieldAddrA t (.pp (.agg sz fs)) i = fdT E (E.ty t) (.pp (.agg sz fs)) i := fieldAddr_eq E t _ i (fun d h => by cases h; exact ⟨_, _, rfl⟩)
theorem fdT_struct (fs : List (Nat × Nat)) (c b : Nat) (z x : AV) (i : Nat) : fdT E (some ⟨.struct fs, c, b, z⟩) x i = bd fs[i]? fun f => bd (E.ty f.2) fun ft => br (decide (ft.cells = 0)) none (fdV f.1 x i) := rfl
theorem fdV_ref (o b i : Nat) (π : List Stp) : fdV o (.ref b π) i = some (.ref b (π ++ [.fld i o])) := rfl
theorem fdV_pp (o i : Nat) (d : PD) : fdV o (.pp d) i = bd (AV.get (.p d) [.fld i o]) ppOf := rfl
def flT (E : Env) : Option Ty → AV → Nat → Option AV
  | some ⟨.struct fs, _, _, _⟩, x, i => bd fs[i]? fun f => bd (E.ty f.2) fun ft => bd (x.get [.fld i f.1]) fun v => br (ft.fits v) (some v) none
  | _, _, _ => none
theorem field_eq (t : Nat) (x : AV) (i : Nat) : E.fieldA t x i = flT E (E.ty t) x i := by
  unfold Env.fieldA
  cases E.ty t with
  | none => rfl
  | some ty =>
    obtain ⟨k, c, b, z⟩ := ty
    cases k with
    | struct fs => simp only [flT, bd, br]
    | _ => rfl
theorem flT_struct (fs : List (Nat × Nat)) (c b : Nat) (z x : AV) (i : Nat) : flT E (some ⟨.struct fs, c, b, z⟩) x i = bd fs[i]? fun f => bd (E.ty f.2) fun ft => bd (x.get [.fld i f.1]) fun v => br (ft.fits v) (some v) none := rfl
def inT (E : Env) : Option Ty → AV → Int → Option AV
  | some ⟨.array n e, _, _, _⟩, x, i => bd (E.ty e) fun et => br (inB i n) (bd (x.get [.idx i.toNat et.cells]) fun v => br (et.fits v) (some v) none) none
  | some ⟨.str, _, _, _⟩, .p (.str s), i => bd (bi s i) fun c => some (.p (.int .u8 c))
  | _, _, _ => none
theorem index_eq (t : Nat) (x : AV) (i : Int) : E.indexA t x i = inT E (E.ty t) x i := by
  unfold Env.indexA
  cases E.ty t with
  | none => rfl
  | some ty =>
    obtain ⟨k, c, b, z⟩ := ty
    cases k with
    | array n e => simp only [inT, bd, br]
    | str =>
      cases x with
      | p d =>
        cases d with
        | str s =>
          simp only [inT, bi]
          split
          · cases s.data[i.toNat]? <;> rfl
          · rfl
        | _ => rfl
      | _ => rfl
    | _ => rfl
theorem inT_arr (n e c b : Nat) (z x : AV) (i : Int) : inT E (some ⟨.array n e, c, b, z⟩) x i = bd (E.ty e) fun et => br (inB i n) (bd (x.get [.idx i.toNat et.cells]) fun v => br (et.fits v) (some v) none) none := rfl
theorem inT_str (c b : Nat) (z : AV) (s : ByteArray) (i : Int) : inT E (some ⟨.str, c, b, z⟩) (.p (.str s)) i = bd (bi s i) fun c => some (.p (.int .u8 c)) := rfl

/-! stores -/
def stO (ty : Ty) (H : Heap) (b : Nat) : Option Obj → List Stp → AV → Option Heap
  | some o, π, v => br (decide (v.cells = some ty.cells)) (bd (o.set π v) fun o' => some (H.set b o')) none
  | none, _, _ => none
def stT (H : Heap) : Option Ty → AV → AV → Option Heap
  | some ty, .ref b π, v => stO ty H b H[b]? π v
  | _, _, _ => none
theorem store_eq (t : Nat) (x v : AV) : E.storeA H t x v = stT H (E.ty t) x v := by
  unfold Env.storeA
  cases E.ty t with
  | none => cases x <;> rfl
  | some ty =>
    cases x with
    | ref b π =>
      simp only [stT, Option.bind_some]
      cases H[b]? with
      | none => rfl
      | some o =>
        simp only [stO, bd, br, Option.bind_some, decide_eq_true_eq]
        split
        · cases o.set π v <;> rfl
        · rfl
    | _ => rfl
theorem stT_ref (ty : Ty) (b : Nat) (π : List Stp) (v : AV) : stT H (some ty) (.ref b π) v = stO ty H b H[b]? π v := rfl
theorem stO_some (ty : Ty) (b : Nat) (o : Obj) (π : List Stp) (v : AV) : stO ty H b (some o) π v = br (decide (v.cells = some ty.cells)) (bd (o.set π v) fun o' => some (H.set b o')) none := rfl
theorem oset_var (t : AV) (π : List Stp) (v : AV) : Obj.set (.var t false) π v = bd t.cells fun n => bd (AV.set n t π v) fun a => some (.var a false) := by
  simp only [Obj.set, bd]; congr 1; funext n; cases AV.set n t π v <;> rfl
theorem oset_row {α : Type} {f : α → PD} {l : List α} {e i : Nat} {π : List Stp} {V : AV} {g : α → α} (h : ∀ x, AV.set e (.p (f x)) π V = some (.p (f (g x)))) :
    Obj.set (.row e (List.map f l) false) (.idx i e :: π) V = (l[i]?).map fun x => .row e (List.map f (l.set i (g x))) false := by
  simp only [Obj.set, if_true, List.getElem?_map]
  cases l[i]? with
  | none => rfl
  | some x => simp only [Option.map_some, Option.bind_some, h, List.map_set]
theorem oset_mrow (xs : List AV) (e i : Nat) (π : List Stp) (v : AV) : Obj.set (.mrow e xs) (.idx i e :: π) v = bd xs[i]? fun d => bd (AV.set e d π v) fun a => some (.mrow e (xs.set i a)) := by
  simp only [Obj.set, if_true, bd]; congr 1; funext n; cases AV.set e n π v <;> rfl
def setA (sz : List Nat) (fs : List PD) (i : Nat) : AV → AV
  | .p d' => .p (.agg sz (fs.set i d'))
  | a => .agg sz ((fs.map .p).set i a)
theorem set_nil (n : Nat) (t v : AV) : AV.set n t [] v = br (decide (v.cells = some n)) (some v) none := by
  cases t <;> simp only [AV.set, br, decide_eq_true_eq]
  all_goals (rename_i d; cases d <;> simp only [AV.set])
theorem set_pagg (n : Nat) (sz : List Nat) (fs : List PD) (i o : Nat) (π : List Stp) (v : AV) : AV.set n (.p (.agg sz fs)) (.fld i o :: π) v =
    br (decide ((sz.take i).sum = o)) (bd fs[i]? fun d => bd sz[i]? fun m => bd (AV.set m (.p d) π v) fun a => some (setA sz fs i a)) none := by
  simp only [AV.set, br, bd, decide_eq_true_eq]
  split
  · congr 1; funext d; congr 1; funext m
    cases AV.set m (.p d) π v with
    | none => rfl
    | some a => cases a <;> rfl
  · rfl
theorem set_agg (n : Nat) (sz : List Nat) (fs : List AV) (i o : Nat) (π : List Stp) (v : AV) : AV.set n (.agg sz fs) (.fld i o :: π) v =
    br (decide ((sz.take i).sum = o)) (bd fs[i]? fun d => bd sz[i]? fun m => bd (AV.set m d π v) fun a => some (.agg sz (fs.set i a))) none := by
  simp only [AV.set, br, bd, decide_eq_true_eq]
  split
  · congr 1; funext d; congr 1; funext m
    cases AV.set m d π v <;> rfl
  · rfl
theorem set_iarr (n : Nat) (k : IntKind) (m i : Nat) (l : List Int) (x : Int) : AV.set n (.p (.iarr k m l)) [.idx i 1] (.p (.int k x)) = br (decide (i < l.length)) (some (.p (.iarr k m (l.set i x)))) none := by
  simp only [AV.set, br, decide_eq_true_eq, true_and]
section
variable (a b c d e : Nat) (π : List Stp) (x : Bool) (vs ws : List AV) (g : Fn) (v : AV) (sz : List Nat) (fs : List PD) (i : Nat)
theorem setA_p (d : PD) : setA sz fs i (.p d) = .p (.agg sz (fs.set i d)) := rfl
theorem setA_agg (tz : List Nat) : setA sz fs i (.agg tz vs) = .agg sz ((fs.map .p).set i (.agg tz vs)) := rfl
theorem setA_ref : setA sz fs i (.ref b π) = .agg sz ((fs.map .p).set i (.ref b π)) := rfl
theorem setA_pp (d : PD) : setA sz fs i (.pp d) = .agg sz ((fs.map .p).set i (.pp d)) := rfl
theorem setA_own : setA sz fs i (.own a b) = .agg sz ((fs.map .p).set i (.own a b)) := rfl
theorem setA_win : setA sz fs i (.win a π b c d e x) = .agg sz ((fs.map .p).set i (.win a π b c d e x)) := rfl
theorem setA_nils : setA sz fs i (.nils a) = .agg sz ((fs.map .p).set i (.nils a)) := rfl
theorem setA_nilp : setA sz fs i .nilp = .agg sz ((fs.map .p).set i .nilp) := rfl
theorem setA_nilm : setA sz fs i .nilm = .agg sz ((fs.map .p).set i .nilm) := rfl
theorem setA_map : setA sz fs i (.map a) = .agg sz ((fs.map .p).set i (.map a)) := rfl
theorem setA_clo : setA sz fs i (.clo g vs ws) = .agg sz ((fs.map .p).set i (.clo g vs ws)) := rfl
theorem setA_iface : setA sz fs i (.iface a v) = .agg sz ((fs.map .p).set i (.iface a v)) := rfl
theorem storable_p (d : PD) : (AV.p d).storable = true := rfl
theorem storable_agg : (AV.agg sz vs).storable = true := rfl
theorem storable_ref : (AV.ref b π).storable = true := rfl
theorem storable_pp (d : PD) : (AV.pp d).storable = true := rfl
theorem storable_own : (AV.own a b).storable = true := rfl
theorem storable_win : (AV.win a π b c d e x).storable = true := rfl
theorem storable_nils : (AV.nils a).storable = true := rfl
theorem storable_nilp : AV.nilp.storable = true := rfl
theorem storable_nilm : AV.nilm.storable = true := rfl
theorem storable_map : (AV.map a).storable = true := rfl
theorem storable_clo : (AV.clo g vs ws).storable = true := rfl
theorem storable_iface : (AV.iface a v).storable = true := rfl
end

/-! composite literals -/
def bdO (E : Env) (k : TyK) (n : Nat) : List (Nat × AV) → Option AV → Option AV
  | [], a => a
  | x :: r, a => bdO E k n r (bd a fun a => bd (E.stpOf k x.1 x.2) fun s => AV.set n a [s.1] x.2)
def arrOk (E : Env) : TyK → Bool
  | .array _ e => (E.ty e).isSome
  | _ => true
def bdT (E : Env) : Option Ty → List (Nat × AV) → Option AV
  | some ⟨k, c, b, z⟩, l => br (aggK k && arrOk E k) (bdO E k c l (some z)) none
  | none, _ => none
theorem build_eq (t : Nat) (l : List (Nat × AV)) : E.buildA t l = bdT E (E.ty t) l := by
  unfold Env.buildA
  cases E.ty t with
  | none => rfl
  | some ty =>
    obtain ⟨k, c, b, z⟩ := ty
    have h1 : (Ty.mk k c b z).agg = aggK k := by cases k <;> rfl
    have h2 : ∀ (l : List (Nat × AV)) (a : Option AV), l.foldl (fun acc x => acc.bind fun a => (E.stpOf k x.1 x.2).bind fun s => AV.set c a [s.1] x.2) a = bdO E k c l a := by
      intro l
      induction l with
      | nil => intro a; rfl
      | cons x r ih => intro a; exact ih _
    simp only [Option.bind_some, bdT, br, h1, h2]
    cases k <;> rfl
theorem bdT_some (k : TyK) (c b : Nat) (z : AV) (l : List (Nat × AV)) : bdT E (some ⟨k, c, b, z⟩) l = br (aggK k && arrOk E k) (bdO E k c l (some z)) none := rfl
theorem arrOk_struct (fs : List (Nat × Nat)) : arrOk E (.struct fs) = true := rfl
theorem arrOk_array (n e : Nat) : arrOk E (.array n e) = (E.ty e).isSome := rfl
theorem bdO_nil (k : TyK) (n : Nat) (a : Option AV) : bdO E k n [] a = a := rfl
theorem bdO_cons (k : TyK) (n : Nat) (i : Nat) (v : AV) (r : List (Nat × AV)) (a : AV) : bdO E k n ((i, v) :: r) (some a) = bdO E k n r (bd (E.stpOf k i v) fun s => AV.set n a [s.1] v) := rfl
theorem stpOf_struct (fs : List (Nat × Nat)) (i : Nat) (v : AV) : E.stpOf (.struct fs) i v = bd fs[i]? fun f => bd (E.ty f.2) fun ft => br (decide (v.cells = some ft.cells)) (some (.fld i f.1, ft.cells)) none := by
  simp only [Env.stpOf, bd, br, decide_eq_true_eq]
theorem stpOf_array (n e : Nat) (i : Nat) (v : AV) : E.stpOf (.array n e) i v = bd (E.ty e) fun et => br (decide (v.cells = some et.cells)) (some (.idx i et.cells, et.cells)) none := by
  simp only [Env.stpOf, bd, br, decide_eq_true_eq]
end
end Ev

/- The machine's rules: frames packed, calls, appends; the set of rules. -/
set_option linter.unusedSimpArgs false
set_option linter.unusedVariables false
namespace Ev
open Go (Value Addr Fn IntKind Oper Op Operand Code Tmp BinOp UnOp Builtin)

/-! frames packed -/
theorem pack_eq (base : Nat) (live : List Nat) (l : List AV) (H : Heap) : pack base live ⟨l, H⟩ = (let r := gc base (live.map fun t => l.getD t .unk) H; ⟨r.1, r.2⟩) := rfl
theorem unpack_eq (n : Nat) (live : List Nat) (vs : List AV) (H : Heap) : unpack n live ⟨vs, H⟩ = ⟨(live.zip vs).foldl (fun l y => l.set y.1 y.2) (List.replicate n .unk), H⟩ := rfl

def ixN (b : Nat) : List Nat → Nat → Option Nat
  | [], _ => none
  | x :: r, n => if b = x then some n else ixN b r (n + 1)
theorem ixN_eq (b : Nat) : ∀ (l : List Nat) (n : Nat), ixN b l n = (l.idxOf? b).map (n + ·)
  | [], n => by simp [ixN]
  | x :: r, n => by
    rw [ixN, ixN_eq b r (n + 1), List.idxOf?_cons]
    by_cases h : b = x
    · subst h; simp
    · have h' : ¬ x = b := fun e => h e.symm
      simp only [h, h', if_false, beq_iff_eq, Option.map_map]
      congr 1; funext y; simp only [Function.comp_apply]; omega
theorem renOf_eq (base : Nat) (seen : List Nat) (b : Nat) : renOf base seen b = if b < base then some b else ixN b seen base := by
  unfold renOf; rw [ixN_eq]
def refTo (π : List Stp) : Option Nat → AV
  | some c => .ref c π
  | none => .unk
def ownTo (lo : Nat) : Option Nat → AV
  | some c => .own c lo
  | none => .unk
def winTo (π : List Stp) (e lo len cap : Nat) (x : Bool) : Option Nat → AV
  | some c => .win c π e lo len cap x
  | none => .unk
def mapTo : Option Nat → AV
  | some c => .map c
  | none => .unk
def yldTo : Option Nat → AV
  | some c => .yld c
  | none => .unk
section
variable (ρ : Nat → Option Nat) (a b c d e : Nat) (π : List Stp) (x : Bool) (vs ws : List AV) (g : Fn) (v : AV)
theorem ren_unk : AV.ren ρ .unk = .unk := rfl
theorem ren_p (d : PD) : AV.ren ρ (.p d) = .p d := rfl
theorem ren_pp (d : PD) : AV.ren ρ (.pp d) = .pp d := rfl
theorem ren_agg (sz : List Nat) : AV.ren ρ (.agg sz vs) = .agg sz (AV.rens ρ vs) := by rw [AV.ren]
theorem ren_ref : AV.ren ρ (.ref b π) = refTo π (ρ b) := by rw [AV.ren]; cases ρ b <;> rfl
theorem ren_own : AV.ren ρ (.own b a) = ownTo a (ρ b) := by rw [AV.ren]; cases ρ b <;> rfl
theorem ren_win : AV.ren ρ (.win b π e a c d x) = winTo π e a c d x (ρ b) := by rw [AV.ren]; cases ρ b <;> rfl
theorem ren_map : AV.ren ρ (.map b) = mapTo (ρ b) := by rw [AV.ren]; cases ρ b <;> rfl
theorem ren_yld : AV.ren ρ (.yld b) = yldTo (ρ b) := by rw [AV.ren]; cases ρ b <;> rfl
theorem ren_nils : AV.ren ρ (.nils a) = .nils a := rfl
theorem ren_nilp : AV.ren ρ .nilp = .nilp := rfl
theorem ren_nilm : AV.ren ρ .nilm = .nilm := rfl
theorem ren_anyb : AV.ren ρ .anyb = .anyb := rfl
theorem ren_clo : AV.ren ρ (.clo g vs ws) = .clo g (AV.rens ρ vs) (AV.rens ρ ws) := by rw [AV.ren]
theorem ren_iface : AV.ren ρ (.iface a v) = .iface a (AV.ren ρ v) := by rw [AV.ren]
theorem ren_tup : AV.ren ρ (.tup vs) = .tup (AV.rens ρ vs) := by rw [AV.ren]
theorem rens_nil : AV.rens ρ [] = [] := rfl
theorem rens_cons : AV.rens ρ (v :: vs) = AV.ren ρ v :: AV.rens ρ vs := by rw [AV.rens]
theorem refTo_some : refTo π (some c) = .ref c π := rfl
theorem ownTo_some : ownTo a (some c) = .own c a := rfl
theorem winTo_some : winTo π e a b d x (some c) = .win c π e a b d x := rfl
theorem mapTo_some : mapTo (some c) = .map c := rfl
theorem yldTo_some : yldTo (some c) = .yld c := rfl
theorem refTo_none : refTo π none = .unk := rfl
theorem ownTo_none : ownTo a none = .unk := rfl
theorem winTo_none : winTo π e a b d x none = .unk := rfl
theorem mapTo_none : mapTo none = .unk := rfl
theorem oren_dead : Obj.ren ρ .dead = .dead := rfl
theorem oren_var : Obj.ren ρ (.var v x) = .var (v.ren ρ) x := rfl
theorem oren_row (xs : List PD) : Obj.ren ρ (.row e xs x) = .row e xs x := rfl
theorem oren_mrow : Obj.ren ρ (.mrow e vs) = .mrow e (AV.rens ρ vs) := rfl
theorem oren_map (es : List (PD × PD)) : Obj.ren ρ (.map a b es) = .map a b es := rfl
theorem ids_unk : AV.ids .unk = [] := rfl
theorem ids_p (d : PD) : AV.ids (.p d) = [] := rfl
theorem ids_pp (d : PD) : AV.ids (.pp d) = [] := rfl
theorem ids_agg (sz : List Nat) : AV.ids (.agg sz vs) = AV.idss vs := by rw [AV.ids]
theorem ids_ref : AV.ids (.ref b π) = [b] := rfl
theorem ids_own : AV.ids (.own b a) = [b] := rfl
theorem ids_win : AV.ids (.win b π e a c d x) = [b] := rfl
theorem ids_map : AV.ids (.map b) = [b] := rfl
theorem ids_yld : AV.ids (.yld b) = [b] := rfl
theorem ids_nils : AV.ids (.nils a) = [] := rfl
theorem ids_nilp : AV.ids .nilp = [] := rfl
theorem ids_nilm : AV.ids .nilm = [] := rfl
theorem ids_anyb : AV.ids .anyb = [] := rfl
theorem ids_clo : AV.ids (.clo g vs ws) = AV.idss vs ++ AV.idss ws := by rw [AV.ids]
theorem ids_iface : AV.ids (.iface a v) = AV.ids v := by rw [AV.ids]
theorem ids_tup : AV.ids (.tup vs) = AV.idss vs := by rw [AV.ids]
theorem idss_nil : AV.idss [] = [] := rfl
theorem idss_cons : AV.idss (v :: vs) = AV.ids v ++ AV.idss vs := by rw [AV.idss]
theorem oids_dead : Obj.ids .dead = [] := rfl
theorem oids_var : Obj.ids (.var v x) = v.ids := rfl
theorem oids_row (xs : List PD) : Obj.ids (.row e xs x) = [] := rfl
theorem oids_mrow : Obj.ids (.mrow e vs) = AV.idss vs := rfl
theorem oids_map (es : List (PD × PD)) : Obj.ids (.map a b es) = [] := rfl
theorem own0_nils (n : Nat) : AV.own0 (.nils e) n = (.own n 0, [.row e [] false]) := rfl
theorem own0_agg (n : Nat) (sz : List Nat) : AV.own0 (.agg sz vs) n = (.agg sz (AV.own0s vs n).1, (AV.own0s vs n).2) := by rw [AV.own0]
theorem own0_unk (n : Nat) : AV.own0 .unk n = (.unk, []) := rfl
theorem own0_p (n : Nat) (d : PD) : AV.own0 (.p d) n = (.p d, []) := rfl
theorem own0_pp (n : Nat) (d : PD) : AV.own0 (.pp d) n = (.pp d, []) := rfl
theorem own0_ref (n : Nat) : AV.own0 (.ref b π) n = (.ref b π, []) := rfl
theorem own0_own (n : Nat) : AV.own0 (.own b a) n = (.own b a, []) := rfl
theorem own0_win (n : Nat) : AV.own0 (.win b π e a c d x) n = (.win b π e a c d x, []) := rfl
theorem own0_map (n : Nat) : AV.own0 (.map b) n = (.map b, []) := rfl
theorem own0_yld (n : Nat) : AV.own0 (.yld b) n = (.yld b, []) := rfl
theorem own0_nilp (n : Nat) : AV.own0 .nilp n = (.nilp, []) := rfl
theorem own0_nilm (n : Nat) : AV.own0 .nilm n = (.nilm, []) := rfl
theorem own0_anyb (n : Nat) : AV.own0 .anyb n = (.anyb, []) := rfl
theorem own0_clo (n : Nat) : AV.own0 (.clo g vs ws) n = (.clo g vs ws, []) := rfl
theorem own0_iface (n : Nat) : AV.own0 (.iface a v) n = (.iface a v, []) := rfl
theorem own0_tup (n : Nat) : AV.own0 (.tup vs) n = (.tup vs, []) := rfl
theorem own0s_nil (n : Nat) : AV.own0s [] n = ([], []) := rfl
theorem own0s_cons (n : Nat) : AV.own0s (v :: vs) n = ((v.own0 n).1 :: (AV.own0s vs (n + (v.own0 n).2.length)).1, (v.own0 n).2 ++ (AV.own0s vs (n + (v.own0 n).2.length)).2) := by rw [AV.own0s]
theorem ownHeap_nil (n : Nat) : ownHeap [] n = ([], []) := rfl
theorem ownHeap_var (r : List Obj) (n : Nat) : ownHeap (.var v x :: r) n = (.var (v.own0 n).1 x :: (ownHeap r (n + (v.own0 n).2.length)).1, (v.own0 n).2 ++ (ownHeap r (n + (v.own0 n).2.length)).2) := rfl
theorem ownHeap_dead (r : List Obj) (n : Nat) : ownHeap (.dead :: r) n = (.dead :: (ownHeap r n).1, (ownHeap r n).2) := rfl
theorem ownHeap_row (xs : List PD) (r : List Obj) (n : Nat) : ownHeap (.row e xs x :: r) n = (.row e xs x :: (ownHeap r n).1, (ownHeap r n).2) := rfl
theorem ownHeap_mrow (r : List Obj) (n : Nat) : ownHeap (.mrow e vs :: r) n = (.mrow e vs :: (ownHeap r n).1, (ownHeap r n).2) := rfl
theorem ownHeap_map (es : List (PD × PD)) (r : List Obj) (n : Nat) : ownHeap (.map a b es :: r) n = (.map a b es :: (ownHeap r n).1, (ownHeap r n).2) := rfl
theorem leans_p (d : PD) : AV.leans (.p d) = [] := rfl
theorem leans_agg (sz : List Nat) : AV.leans (.agg sz vs) = AV.leanss vs := by rw [AV.leans]
theorem leans_own : AV.leans (.own b a) = [b] := rfl
theorem leans_win : AV.leans (.win b π e a c d x) = [b] := rfl
theorem leans_nils : AV.leans (.nils a) = [] := rfl
theorem leans_clo : AV.leans (.clo g vs ws) = [] := rfl
theorem leanss_nil : AV.leanss [] = [] := rfl
theorem leanss_cons : AV.leanss (v :: vs) = v.leans ++ AV.leanss vs := by rw [AV.leanss]
end
theorem enter_eq (vs : List AV) (H : Heap) : enter ⟨vs, H⟩ = ⟨(AV.own0s vs H.length).1, (ownHeap H (H.length + (AV.own0s vs H.length).2.length)).1 ++ (AV.own0s vs H.length).2 ++ (ownHeap H (H.length + (AV.own0s vs H.length).2.length)).2⟩ := rfl
theorem enterN_eq (base : Nat) (vs : List AV) (H : Heap) : enterN base ⟨vs, H⟩ = (let y := enter ⟨vs, H⟩; let r := gc base y.vs y.heap; ⟨r.1, r.2⟩) := rfl
theorem gc_eq (base : Nat) (roots : List AV) (H : Heap) : gc base roots H = if H.length ≤ base then (roots, H) else
    (let seen := reach H base 1000 ((H.take base).flatMap Obj.ids ++ AV.idss roots) []; (AV.rens (renOf base seen) roots, H.keep base seen)) := rfl
theorem reach_nil (H : Heap) (base k : Nat) (seen : List Nat) : reach H base (k + 1) [] seen = seen := rfl
theorem reach_cons (H : Heap) (base k b : Nat) (todo seen : List Nat) : reach H base (k + 1) (b :: todo) seen =
    if b < base then reach H base k todo seen else if seen.contains b then reach H base k todo seen else reach H base k ((H.getD b .dead).ids ++ todo) (seen ++ [b]) := rfl
theorem keep_eq (H : Heap) (base : Nat) (seen : List Nat) : H.keep base seen = (H.take base).map (Obj.ren (renOf base seen)) ++ seen.map fun b => (H.getD b .dead).ren (renOf base seen) := rfl
def sealO (H : Heap) (b : Nat) : Option Obj → Heap
  | some o => H.set b o.shut
  | none => H
theorem shut_nil (H : Heap) : Heap.shut H [] = H := rfl
theorem shut_cons (H : Heap) (b : Nat) (bs : List Nat) : Heap.shut H (b :: bs) = Heap.shut (sealO H b H[b]?) bs := by
  show Heap.shut (Heap.sealAt H b) bs = _
  unfold Heap.sealAt; cases H[b]? <;> rfl
theorem sealO_some (H : Heap) (b : Nat) (o : Obj) : sealO H b (some o) = H.set b o.shut := rfl
theorem shut_var (t : AV) (s : Bool) : Obj.shut (.var t s) = .var t true := rfl
theorem shut_row (e : Nat) (xs : List PD) (s : Bool) : Obj.shut (.row e xs s) = .row e xs true := rfl

theorem settles_nil (H : Heap) : settles H [] = H := rfl
theorem settles_cons (H : Heap) (v : AV) (l : List AV) : settles H (v :: l) = settles (settle H v) l := rfl
theorem settle_own (H : Heap) (b lo : Nat) : settle H (.own b lo) = settleO H b H[b]? := rfl
theorem settle_p (H : Heap) (d : PD) : settle H (.p d) = H := rfl
theorem settle_pp (H : Heap) (d : PD) : settle H (.pp d) = H := rfl
theorem settle_agg (H : Heap) (a : List Nat) (b : List AV) : settle H (.agg a b) = H := rfl
theorem settle_ref (H : Heap) (b : Nat) (π : List Stp) : settle H (.ref b π) = H := rfl
theorem settle_win (H : Heap) (a b c d e : Nat) (π : List Stp) (x : Bool) : settle H (.win a π b c d e x) = H := rfl
theorem settle_nils (H : Heap) (b : Nat) : settle H (.nils b) = H := rfl
theorem settle_nilp (H : Heap) : settle H .nilp = H := rfl
theorem settle_nilm (H : Heap) : settle H .nilm = H := rfl
theorem settle_map (H : Heap) (b : Nat) : settle H (.map b) = H := rfl
theorem settle_clo (H : Heap) (g : Fn) (a b : List AV) : settle H (.clo g a b) = H := rfl
theorem settle_yld (H : Heap) (b : Nat) : settle H (.yld b) = H := rfl
theorem settle_iface (H : Heap) (b : Nat) (v : AV) : settle H (.iface b v) = H := rfl
theorem settleO_row (H : Heap) (b e : Nat) (xs : List PD) (s : Bool) : settleO H b (some (.row e xs s)) = H := rfl
def settleR (H : Heap) (b e : Nat) (xs : List AV) : Option (List PD) → Heap
  | some ds => (H.shut (AV.leanss xs)).set b (.row e ds false)
  | none => H
theorem settleO_mrow (H : Heap) (b e : Nat) (xs : List AV) : settleO H b (some (.mrow e xs)) = settleR H b e xs (freezes H xs) := by
  simp only [settleO]; cases freezes H xs <;> rfl
theorem settleR_some (H : Heap) (b e : Nat) (xs : List AV) (ds : List PD) : settleR H b e xs (some ds) = (H.shut (AV.leanss xs)).set b (.row e ds false) := rfl
theorem settleR_none (H : Heap) (b e : Nat) (xs : List AV) : settleR H b e xs none = H := rfl
theorem freeze_clo (H : Heap) (g : Nat) : freeze H (.clo (.func g) [] []) = some (.fn (.func g)) := rfl
theorem freeze_clo1 (H : Heap) (g : Fn) (a : AV) (l b : List AV) : freeze H (.clo g (a :: l) b) = none := rfl
theorem freeze_clo2 (H : Heap) (g : Fn) (a : AV) (l : List AV) : freeze H (.clo g [] (a :: l)) = none := rfl
theorem freeze_ref (H : Heap) (b : Nat) (π : List Stp) : freeze H (.ref b π) = none := rfl
theorem freeze_pp (H : Heap) (d : PD) : freeze H (.pp d) = none := rfl
theorem freeze_map (H : Heap) (b : Nat) : freeze H (.map b) = none := rfl
theorem freeze_yld (H : Heap) (b : Nat) : freeze H (.yld b) = none := rfl
theorem freeze_nilp (H : Heap) : freeze H .nilp = none := rfl
theorem freeze_nilm (H : Heap) : freeze H .nilm = none := rfl

/-! calls -/
section
variable {R : Type} (q : Cf) (k : Ex → St → Option R) (K : List Fr) (s : St) (ops : Array Oper) (m : Nat) (dst : Option Tmp) (ty : Nat) (l : List Oper)
theorem XC_fn (g : Nat) (as : List AV) (ds : List PD) (h : q.E.raw g = false) : @XC q m dst (.p (.fn (.func g))) as (some ds) ⟨(ops, l, K)⟩ s _ ⟨k⟩ = bd (q.C (.f g) (ds.map .p) []) fun r => @XK q m dst as r ⟨(ops, l, K)⟩ s _ ⟨k⟩ := by
  simp only [XC, h, bne_self_eq_false, Bool.false_eq_true, if_false]
theorem XC_fn2 (g : Nat) (as : List AV) (h : q.E.raw g = false) : @XC q 0 dst (.p (.fn (.func g))) as none ⟨(ops, l, K)⟩ s _ ⟨k⟩ = jx (q.C (.f g) as s.heap) fun r => @XK2 q dst r ⟨(ops, l, K)⟩ s _ ⟨k⟩ := by
  simp only [XC, h, bne_self_eq_false, Bool.false_eq_true, if_false]; rfl
theorem XC_raw (g : Nat) (as : List AV) (ds : Option (List PD)) (h : q.E.raw g = true) : @XC q 0 dst (.p (.fn (.func g))) as ds ⟨(ops, l, K)⟩ s _ ⟨k⟩ = jx (q.C (.f g) as s.heap) fun r => @XK2 q dst r ⟨(ops, l, K)⟩ s _ ⟨k⟩ := by
  simp only [XC, h, bne_self_eq_false, Bool.false_eq_true, if_false, if_true]; rfl
theorem XC_clo (g : Nat) (as a b : List AV) (ds : Option (List PD)) : @XC q 0 dst (.clo (.func g) a b) as ds ⟨(ops, l, K)⟩ s _ ⟨k⟩ = jx (q.C (.f g) (a ++ as ++ b) s.heap) fun r => @XK2 q dst r ⟨(ops, l, K)⟩ s _ ⟨k⟩ := by
  simp only [XC, bne_self_eq_false, Bool.false_eq_true, if_false]; rfl
theorem args_eq (E : Env) (ρ : Operand → AV) (as : List Operand) (ts : List Nat) : E.args ρ (List.toArray as) (List.toArray ts) = if as.length = ts.length then some ((as.zip ts).map fun x => E.fixNil x.2 (ρ x.1)) else none := by
  simp only [Env.args, List.size_toArray]
end

/-! appends -/
def slOf (c : Nat) : PD → Option (List PD)
  | .sl e ds => if e = c then some ds else none
  | _ => none
def apT (H : Heap) (et : Ty) (x : AV) : Option Ty → Option (List PD)
  | some ⟨.slice _, _, _, _⟩ => bd (freeze H x) (slOf et.cells)
  | some ⟨.str, _, _, _⟩ => (match x with | .p (.str b) => if et.cells = 1 then some (b.data.toList.map fun c => PD.int .u8 c.toNat) else none | _ => none)
  | some ⟨.int _, _, _, _⟩ => (match x with | .p (.int _ n) => (freeze H et.zero).bind fun z => if 0 ≤ n ∧ n * et.bytes ≤ 2 ^ 47 ∧ n < 2 ^ 47 then some (List.replicate n.toNat z) else none | _ => none)
  | _ => none
theorem appArg_eq (E : Env) (H : Heap) (et : Ty) (t : Nat) (x : AV) : E.appArg H et t x = apT H et x (E.ty t) := by
  unfold Env.appArg
  cases E.ty t with
  | none => cases x <;> first | rfl | (rename_i d; cases d <;> rfl)
  | some ty =>
    obtain ⟨k, c, b, z⟩ := ty
    cases k with
    | slice e =>
      have : (match freeze H x with | some (.sl e ds) => if e = et.cells then some ds else none | _ => none) = bd (freeze H x) (slOf et.cells) := by
        cases freeze H x with
        | none => rfl
        | some d => cases d <;> rfl
      cases x <;> first | exact this | (rename_i d; cases d <;> exact this)
    | str => cases x <;> first | rfl | (rename_i d; cases d <;> rfl)
    | _ => cases x <;> first | rfl | (rename_i d; cases d <;> rfl)
theorem apT_slice (H : Heap) (et : Ty) (x : AV) (e c b : Nat) (z : AV) : apT H et x (some ⟨.slice e, c, b, z⟩) = bd (freeze H x) (slOf et.cells) := rfl
theorem apT_str (H : Heap) (et : Ty) (c b : Nat) (z : AV) (s : ByteArray) : apT H et (.p (.str s)) (some ⟨.str, c, b, z⟩) = if et.cells = 1 then some (s.data.toList.map fun c => PD.int .u8 c.toNat) else none := rfl
theorem slOf_sl (e c : Nat) (ds : List PD) : slOf c (.sl e ds) = if e = c then some ds else none := rfl
def apO (H : Heap) (et : Ty) (ds : List PD) (b lo : Nat) : Option Obj → Option (AV × Heap)
  | some (.row e xs s) => if e = et.cells ∧ lo ≤ xs.length then br (decide ((xs.length - lo + ds.length) * et.bytes ≤ 2 ^ 46 ∧ xs.length - lo + ds.length ≤ 2 ^ 46)) (some (.own H.length 0, H.set b .dead ++ [.row e (xs.drop lo ++ ds) s])) none else none
  | _ => none
def apA (H : Heap) (et : Ty) (ds : List PD) : AV → Option (AV × Heap)
  | .nils e => if e = et.cells then br (decide (ds.length * et.bytes ≤ 2 ^ 46 ∧ ds.length ≤ 2 ^ 46)) (some (.own H.length 0, H ++ [.row et.cells ds false])) none else none
  | .own b lo => apO H et ds b lo H[b]?
  | .win b π e lo len cap true => if e = et.cells ∧ cap < len + ds.length ∧ (len + ds.length) * et.bytes ≤ 2 ^ 46 ∧ len + ds.length ≤ 2 ^ 46 then
      (H.elems b π e lo len).map fun xs => (.own H.length 0, H ++ [.row e (xs ++ ds) false]) else none
  | _ => none
theorem append_eq (E : Env) (H : Heap) (t u : Nat) (s x : AV) : E.appendA H t u s x = bd (E.elem t) fun et => bd (E.appArg H et u x) fun ds => apA H et ds s := by
  unfold Env.appendA bd
  congr 1; funext et; congr 1; funext ds
  cases s with
  | nils e =>
    simp only [apA, br]
    by_cases h : e = et.cells <;> simp [h]
  | own b lo =>
    simp only [apA]
    cases H[b]? with
    | none => rfl
    | some o =>
      cases o with
      | row e xs s =>
        simp only [apO, br]
        by_cases h1 : e = et.cells <;> by_cases h2 : lo ≤ xs.length <;> simp [h1, h2]
      | _ => rfl
  | win b π e lo len cap x => cases x <;> rfl
  | _ => rfl
theorem apA_nils (H : Heap) (et : Ty) (ds : List PD) (e : Nat) : apA H et ds (.nils e) = if e = et.cells then br (decide (ds.length * et.bytes ≤ 2 ^ 46 ∧ ds.length ≤ 2 ^ 46)) (some (.own H.length 0, H ++ [.row et.cells ds false])) none else none := rfl
theorem apA_own (H : Heap) (et : Ty) (ds : List PD) (b lo : Nat) : apA H et ds (.own b lo) = apO H et ds b lo H[b]? := rfl
theorem apO_row (H : Heap) (et : Ty) (ds : List PD) (b e : Nat) (xs : List PD) (s : Bool) : apO H et ds b 0 (some (.row e xs s)) =
    if e = et.cells then br (decide ((xs.length + ds.length) * et.bytes ≤ 2 ^ 46 ∧ xs.length + ds.length ≤ 2 ^ 46)) (some (.own H.length 0, H.set b .dead ++ [.row e (xs ++ ds) s])) none else none := by
  simp only [apO, Nat.zero_le, and_true, Nat.sub_zero, List.drop_zero]
/-- An append that finds room. -/
theorem bd_guard {A R : Type} {x : Option A} {c : Bool} {a : A} {f : A → Option R} {y : Option R} (h : x = br c (some a) none) (hk : f a = y) : @bdI A R x ⟨f⟩ = @brI R c ⟨y⟩ ⟨none⟩ := by
  rw [h]; cases c
  · rfl
  · exact hk
theorem bd_one {A R : Type} {x : Option A} {a : A} {f : A → Option R} {y : Option R} (h : x = some a) (hk : f a = y) : @bdI A R x ⟨f⟩ = y := by
  rw [h]; exact hk

/-! equality -/
section
variable (E : Env) {t m e c b c' b' : Nat} {z z' : AV} {k : IntKind}
def hasM (E : Env) (n : Nat) : Option Ty → PD → Bool
    | some ⟨.int k, _, _, _⟩, .int k' _ => k == k'
    | some ⟨.bool, _, _, _⟩, .bool _ => true
    | some ⟨.str, _, _, _⟩, .str _ => true
    | some ⟨.struct fs, c, _, _⟩, .agg sz ds => c == sz.sum && fs.length == ds.length && sz.length == ds.length && Env.has.goS E n fs sz 0 ds
    | some ⟨.array m e, c, _, _⟩, .iarr k m' _ => c == m' && m == m' && (match E.ty e with | some ⟨.int k', _, _, _⟩ => k == k' | _ => false)
    | some ⟨.slice e, _, _, _⟩, .sl e' _ => match E.ty e with | some ty => ty.cells == e' | none => false
    | _, _ => false
theorem has_eq (n t : Nat) (d : PD) : E.has (n + 1) t d = hasM E n (E.ty t) d := by
  unfold Env.has
  cases E.ty t with
  | none => rfl
  | some ty =>
    obtain ⟨k, c, b, z⟩ := ty
    cases k <;> cases d <;> rfl
theorem has_iarr (n : Nat) (ht : E.ty t = some ⟨.array m e, m, b, z⟩) (he : E.ty e = some ⟨.int k, c', b', z'⟩) (x : List Int) : E.has (n + 1) t (.iarr k m x) = true := by
  rw [has_eq, ht]; simp only [hasM, he, beq_self_eq_true, Bool.and_self]
theorem has_bool (n : Nat) (ht : E.ty t = some ⟨.bool, c, b, z⟩) (x : Bool) : E.has (n + 1) t (.bool x) = true := by
  rw [has_eq, ht]; rfl
theorem has_int (n : Nat) (ht : E.ty t = some ⟨.int k, c, b, z⟩) (x : Int) : E.has (n + 1) t (.int k x) = true := by
  rw [has_eq, ht]; simp only [hasM, beq_self_eq_true]
theorem has_str (n : Nat) (ht : E.ty t = some ⟨.str, c, b, z⟩) (x : ByteArray) : E.has (n + 1) t (.str x) = true := by
  rw [has_eq, ht]; rfl
theorem has_slice (n : Nat) {ty : Ty} (ht : E.ty t = some ⟨.slice e, c, b, z⟩) (he : E.ty e = some ty) (x : List PD) : E.has (n + 1) t (.sl ty.cells x) = true := by
  rw [has_eq, ht]; simp only [hasM, he, beq_self_eq_true]
theorem has_struct (n : Nat) {fs : List (Nat × Nat)} (ht : E.ty t = some ⟨.struct fs, c, b, z⟩) (sz : List Nat) (ds : List PD) :
    E.has (n + 1) t (.agg sz ds) = (c == sz.sum && fs.length == ds.length && sz.length == ds.length && Env.has.goS E n fs sz 0 ds) := by
  rw [has_eq, ht]; rfl
theorem goS_cons (n o u s at_ : Nat) (fs : List (Nat × Nat)) (sz : List Nat) (d : PD) (ds : List PD) : Env.has.goS E n ((o, u) :: fs) (s :: sz) at_ (d :: ds) = (o == at_ && E.has n u d && Env.has.goS E n fs sz (at_ + s) ds) := rfl
theorem goS_nil (n at_ : Nat) : Env.has.goS E n [] [] at_ [] = true := rfl
theorem bin_eql {x y : PD} {r : Bool} (h1 : E.has 10 t x = true) (h2 : E.has 10 t y = true) (h3 : PD.eqv x y = some r) (hi : ∀ k n, x ≠ .int k n) (hs : ∀ s, x ≠ .str s) :
    E.binA .eql t (.p x) (.p y) = some (.p (.bool r)) := by
  cases x <;> first | (exact absurd rfl (hi _ _)) | (exact absurd rfl (hs _)) | (simp only [Env.binA, h1, h2, h3, Bool.and_self, if_true, Option.map_some])
theorem bin_neq {x y : PD} {r : Bool} (h1 : E.has 10 t x = true) (h2 : E.has 10 t y = true) (h3 : PD.eqv x y = some r) (hi : ∀ k n, x ≠ .int k n) (hs : ∀ s, x ≠ .str s) :
    E.binA .neq t (.p x) (.p y) = some (.p (.bool (!r))) := by
  cases x <;> first | (exact absurd rfl (hi _ _)) | (exact absurd rfl (hs _)) | (simp only [Env.binA, h1, h2, h3, Bool.and_self, if_true, Option.map_some])
theorem eql_iarr (ht : E.ty t = some ⟨.array m e, m, b, z⟩) (he : E.ty e = some ⟨.int k, c', b', z'⟩) (x y : List Int) :
    E.binA .eql t (.p (.iarr k m x)) (.p (.iarr k m y)) = some (.p (.bool (x == y))) :=
  bin_eql E (has_iarr E 9 ht he x) (has_iarr E 9 ht he y) rfl (by simp) (by simp)
theorem neq_iarr (ht : E.ty t = some ⟨.array m e, m, b, z⟩) (he : E.ty e = some ⟨.int k, c', b', z'⟩) (x y : List Int) :
    E.binA .neq t (.p (.iarr k m x)) (.p (.iarr k m y)) = some (.p (.bool (!(x == y)))) :=
  bin_neq E (has_iarr E 9 ht he x) (has_iarr E 9 ht he y) rfl (by simp) (by simp)
theorem eql_bool (ht : E.ty t = some ⟨.bool, c, b, z⟩) (x y : Bool) : E.binA .eql t (.p (.bool x)) (.p (.bool y)) = some (.p (.bool (x == y))) :=
  bin_eql E (has_bool E 9 ht x) (has_bool E 9 ht y) rfl (by simp) (by simp)
theorem neq_bool (ht : E.ty t = some ⟨.bool, c, b, z⟩) (x y : Bool) : E.binA .neq t (.p (.bool x)) (.p (.bool y)) = some (.p (.bool (!(x == y)))) :=
  bin_neq E (has_bool E 9 ht x) (has_bool E 9 ht y) rfl (by simp) (by simp)
end

/-! literals of slices -/
def litV (H : Heap) (et : Ty) (vs : List AV) : Option (List PD) → Option (AV × List Obj)
  | some ds => br (ds.all fun d => d.cells == et.cells) (some (.own H.length 0, [.row et.cells ds false])) none
  | none => br (vs.all fun d => d.cells == some et.cells) (some (.own H.length 0, [.mrow et.cells vs])) none
theorem sliceLit_eq (E : Env) (H : Heap) (t n : Nat) (ix : List Nat) (vs : List AV) : E.sliceLit H t n ix vs = bd (E.elem t) fun et => br (decide (n * et.cells ≤ 16777216 ∧ ix = List.range n)) (litV H et vs (allP vs)) none := by
  unfold Env.sliceLit
  congr 1; funext et
  simp only [br, decide_eq_true_eq, litV]
  split
  · cases allP vs <;> rfl
  · rfl
theorem litV_some (H : Heap) (et : Ty) (vs : List AV) (ds : List PD) : litV H et vs (some ds) = br (ds.all fun d => d.cells == et.cells) (some (.own H.length 0, [.row et.cells ds false])) none := rfl
theorem litV_none (H : Heap) (et : Ty) (vs : List AV) : litV H et vs none = br (vs.all fun d => d.cells == some et.cells) (some (.own H.length 0, [.mrow et.cells vs])) none := rfl
theorem allP_nil : allP [] = some [] := rfl
theorem allP_p (d : PD) (l : List AV) : allP (.p d :: l) = (allP l).map (d :: ·) := rfl
theorem allP_agg (a : List Nat) (b l : List AV) : allP (.agg a b :: l) = none := rfl
theorem allP_own (a b : Nat) (l : List AV) : allP (.own a b :: l) = none := rfl
theorem allP_nils (a : Nat) (l : List AV) : allP (.nils a :: l) = none := rfl
theorem allP_ref (a : Nat) (π : List Stp) (l : List AV) : allP (.ref a π :: l) = none := rfl
theorem allP_win (a b c d e : Nat) (π : List Stp) (x : Bool) (l : List AV) : allP (.win a π b c d e x :: l) = none := rfl
theorem allP_clo (g : Fn) (a b l : List AV) : allP (.clo g a b :: l) = none := rfl
theorem allP_mp (a : Nat) (l : List AV) : allP (.map a :: l) = none := rfl

attribute [go_sem] fin_own sliceLit_eq litV_some litV_none allP_nil allP_p allP_agg allP_own allP_nils allP_ref allP_win allP_clo allP_mp List.range_zero
attribute [go_sem] settles_nil settles_cons settle_own settle_p settle_pp settle_agg settle_ref settle_win settle_nils settle_nilp settle_nilm settle_map settle_clo settle_yld settle_iface settleO_row settleO_mrow settleR_some settleR_none freeze_clo freeze_clo1 freeze_clo2 freeze_ref freeze_pp freeze_map freeze_yld freeze_nilp freeze_nilm Sum.elim_inl Sum.elim_inr Sum.map_inl Sum.map_inr lenV_eq lenT_sl lenT_own lenT_win lenT_nils lenT_str lenT_map lenT_nilm lenO_row lenO_mrow lenM_map aliveO_var aliveO_row indexAddr_eq ixT_slice ixT_arr ixT_arrp ppOf_p idxA_sl idxA_own ixO_row ixO_mrow idxA_win
  fits_eq aggK_int aggK_bool aggK_str aggK_struct aggK_array aggK_slice aggK_ptr aggK_map aggK_func aggK_iface
  cells_p cells_agg cells_ref cells_pp cells_own cells_win cells_nils cells_nilp cells_nilm cells_map cells_clo cells_yld cells_iface isAgg_p isAgg_agg isAgg_ref isAgg_pp isAgg_own isAgg_win isAgg_nils isAgg_nilp isAgg_nilm isAgg_map isAgg_clo isAgg_yld isAgg_iface
  pcells_int pcells_bool pcells_str pcells_agg pcells_iarr pcells_arr pcells_sl pcells_fn pcells_nilf pcells_nili pagg_int pagg_bool pagg_str pagg_agg pagg_iarr pagg_arr pagg_sl pagg_fn pagg_nilf pagg_nili
  pflat_int pflat_bool pflat_str pflat_iarr pflat_arr pflat_sl pflat_fn flat_p flat_tup flatV_p flat_own
  load_eq ldT_ref ldT_pp ldO_some oget_var oget_row oget_mrow get_nil get_agg get_pagg get_iarr get_arr get_aggi fieldAddr_ref fieldAddr_agg fdT_struct fdV_ref fdV_pp field_eq flT_struct index_eq inT_arr inT_str
  store_eq stT_ref stO_some oset_var oset_mrow set_nil set_pagg set_agg set_iarr setA_p setA_agg setA_ref setA_pp setA_own setA_win setA_nils setA_nilp setA_nilm setA_map setA_clo setA_iface
  storable_p storable_agg storable_ref storable_pp storable_own storable_win storable_nils storable_nilp storable_nilm storable_map storable_clo storable_iface
  build_eq bdT_some arrOk_struct arrOk_array bdO_nil bdO_cons stpOf_struct stpOf_array
  pack_eq unpack_eq ixN renOf_eq ren_unk ren_p ren_pp ren_agg ren_ref ren_own ren_win ren_map ren_yld ren_nils ren_nilp ren_nilm ren_anyb ren_clo ren_iface ren_tup rens_nil rens_cons refTo_some ownTo_some winTo_some mapTo_some yldTo_some refTo_none ownTo_none winTo_none mapTo_none
  oren_dead oren_var oren_row oren_mrow oren_map ids_unk ids_p ids_pp ids_agg ids_ref ids_own ids_win ids_map ids_yld ids_nils ids_nilp ids_nilm ids_anyb ids_clo ids_iface ids_tup idss_nil idss_cons oids_dead oids_var oids_row oids_mrow oids_map
  own0_nils own0_agg own0_unk own0_p own0_pp own0_ref own0_own own0_win own0_map own0_yld own0_nilp own0_nilm own0_anyb own0_clo own0_iface own0_tup own0s_nil own0s_cons ownHeap_nil ownHeap_var ownHeap_dead ownHeap_row ownHeap_mrow ownHeap_map
  leans_p leans_agg leans_own leans_win leans_nils leans_clo leanss_nil leanss_cons enter_eq enterN_eq gc_eq reach_nil reach_cons keep_eq shut_nil shut_cons sealO_some shut_var shut_row
  XC_fn XC_raw XC_fn2 XC_clo args_eq XK_flat XK_ret XK_calm extrA
  List.length_map List.sum_cons List.sum_nil List.take_succ_cons List.take_zero List.take_nil List.flatMap_cons List.flatMap_nil List.append_nil List.contains_cons List.contains_nil List.length_append List.all_cons List.all_nil
  decide_true decide_false eq_self Bool.and_true Bool.true_and Bool.and_false Bool.false_and Bool.or_true Bool.true_or Bool.or_false Bool.false_or Nat.zero_add Nat.add_zero List.isEmpty_nil List.isEmpty_cons and_true true_and and_self
end Ev
