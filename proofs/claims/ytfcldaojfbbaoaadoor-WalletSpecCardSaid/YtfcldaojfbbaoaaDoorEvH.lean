/- Part 8 of the evaluator of the given model: its rules and their soundness (no condition). -/
import Derived.KernelRfl
import Derived.Test.YtfcldaojfbbaoaaDoorEvG
set_option linter.unusedVariables false
set_option linter.unusedSimpArgs false
set_option linter.unnecessarySimpa false
/- The machine's rules: the evaluator with its continuations as data. -/
set_option linter.unusedSimpArgs false
set_option linter.unusedVariables false
namespace Ev
open Go (Value Addr Fn IntKind Oper Op Operand Code Tmp BinOp UnOp Builtin)

structure Cf where
  E : Env
  C : Sem'
  fn : Nat
  n : Nat
  base : Nat

inductive Fr where
  | seq (b : Code) (y : Ann)
  | blk (id : Nat)
  /-- No load from where was stored: behind a region that drew its order. -/
  | chk (las sas : List Operand)

/-- What simp doesn't look at (it stands where instances stand). -/
class Hid (α : Type) where
  val : α

noncomputable def appR (q : Cf) {R : Type} (k : Ex → St → Option R) : List Fr → Ex → St → Option R
  | [], e, s => k e s
  | .seq b y :: K, e, s => match e with
    | .normal => q.E.code q.C q.fn q.n q.base b y s (appR q k K)
    | e => appR q k K e s
  | .blk id :: K, e, s => match e with
    | .exit id' => if id' = id then appR q k K .normal s else appR q k K (.exit id') s
    | e => appR q k K e s
  | .chk las sas :: K, e, s => if q.E.farA s.tmps las sas then appR q k K e s else none
noncomputable def app (q : Cf) [K : Hid (List Fr)] (e : Ex) (s : St) {R : Type} [k : Hid (Ex → St → Option R)] : Option R := appR q k.val K.val e s

noncomputable def X (q : Cf) [c : Hid (Code × Ann × List Fr)] (s : St) {R : Type} [k : Hid (Ex → St → Option R)] : Option R := q.E.code q.C q.fn q.n q.base c.val.1 c.val.2.1 s (appR q k.val c.val.2.2)

/-- A test on a truth value that is not known: nothing behind it is looked at before it is decided. -/
def br {R : Type} (t : Bool) (x y : Option R) : Option R := if t then x else y
def brI {R : Type} (t : Bool) [x : Hid (Option R)] [y : Hid (Option R)] : Option R := if t then x.val else y.val
theorem br_I {R : Type} (t : Bool) (x y : Option R) : br t x y = @brI R t ⟨x⟩ ⟨y⟩ := rfl
theorem br_true {R : Type} (x y : Option R) : @brI R true ⟨x⟩ ⟨y⟩ = x := rfl
theorem br_false {R : Type} (x y : Option R) : @brI R false ⟨x⟩ ⟨y⟩ = y := rfl

/-- What follows a step that may not answer. -/
def bd {A R : Type} (x : Option A) (f : A → Option R) : Option R := x.bind f
def bdI {A R : Type} (x : Option A) [f : Hid (A → Option R)] : Option R := x.bind f.val
theorem bd_I {A R : Type} (x : Option A) (f : A → Option R) : bd x f = @bdI A R x ⟨f⟩ := rfl
theorem bd_some {A R : Type} (a : A) (f : A → Option R) : @bdI A R (some a) ⟨f⟩ = f a := rfl
theorem bd_none {A R : Type} (f : A → Option R) : @bdI A R none ⟨f⟩ = none := rfl

/-- Where ways meet, or a call is walked through: neither part is looked at. -/
def jx {A R : Type} (x : Option A) (f : A → Option R) : Option R := x.bind f
def jxI {A R : Type} [x : Hid (Option A)] [f : Hid (A → Option R)] : Option R := x.val.bind f.val
theorem jx_I {A R : Type} (x : Option A) (f : A → Option R) : jx x f = @jxI A R ⟨x⟩ ⟨f⟩ := rfl
theorem jx_bd {A R : Type} (x : Option A) (f : A → Option R) : @jxI A R ⟨x⟩ ⟨f⟩ = bd x f := rfl
/-! The same in the plain functions; 'n' is a mark. -/
def jn {A R : Type} (n : Nat) (x : Option A) (f : A → Option R) : Option R := x.bind f
def jnI {A R : Type} (n : Nat) [x : Hid (Option A)] [f : Hid (A → Option R)] : Option R := x.val.bind f.val
theorem jn_I {A R : Type} (n : Nat) (x : Option A) (f : A → Option R) : jn n x f = @jnI A R n ⟨x⟩ ⟨f⟩ := rfl
noncomputable def lp {S R Z : Type} (n : Nat) (step : S → Option (S ⊕ R)) (s : S) (f : R → Option Z) : Option Z := (loopD step s).bind f
def ap {R : Type} (n : Nat) (c : Bool) (x : Option R) : Option R := if c then x else none
def apI {R : Type} (n : Nat) [c : Hid Bool] [x : Hid (Option R)] : Option R := if c.val then x.val else none
theorem ap_I {R : Type} (n : Nat) (c : Bool) (x : Option R) : ap n c x = @apI R n ⟨c⟩ ⟨x⟩ := rfl
theorem lp_I {S R Z : Type} (n : Nat) (step : S → Option (S ⊕ R)) (s : S) (f : R → Option Z) : lp n step s f = @jnI R Z n ⟨loopD step s⟩ ⟨f⟩ := rfl
theorem jn_map {A B R : Type} {x : Option A} {m : Option B} {f : A → Option R} {g : B → Option R} (n : Nat) (enc : B → A) (h : x = m.map enc) (hk : ∀ r, f (enc r) = g r) : @jxI A R ⟨x⟩ ⟨f⟩ = @jnI B R n ⟨m⟩ ⟨g⟩ := by
  rw [h]
  cases m with
  | none => rfl
  | some b => exact hk b
theorem cl_map {A B R : Type} {x : Option A} {m : Option B} {f : A → Option R} {g : B → Option R} (n : Nat) {enc : B → A} (h : x = m.map enc) (hk : ∀ r, f (enc r) = g r) : @bdI A R x ⟨f⟩ = @jnI B R n ⟨m⟩ ⟨g⟩ := by
  rw [h]
  cases m with
  | none => rfl
  | some b => exact hk b
theorem ap_guard {A R : Type} {x : Option A} {c : Bool} {f : A → Option R} {y : Option R} (n : Nat) (a : A) (h : x = br c (some a) none) (hk : f a = y) : @bdI A R x ⟨f⟩ = @apI R n ⟨c⟩ ⟨y⟩ := by
  rw [h]; cases c
  · rfl
  · exact hk
theorem at_jn (n : Nat) {A R : Type} {z : Option R} {x : Hid (Option A)} {f : Hid (A → Option R)} (h : z = @jnI A R n x f) : z = @jnI A R n x f := h
theorem at_ap (n : Nat) {R : Type} {z : Option R} {c : Hid Bool} {x : Hid (Option R)} (h : z = @apI R n c x) : z = @apI R n c x := h
theorem sumAll {A B : Type} {P : A ⊕ B → Prop} (h1 : ∀ a, P (.inl a)) (h2 : ∀ b, P (.inr b)) : ∀ r, P r
  | .inl a => h1 a
  | .inr b => h2 b

/-- A loop whose round is not looked at. -/
noncomputable def lpI {S R : Type} [step : Hid (S → Option (S ⊕ R))] (s : S) : Option R := loopD step.val s

section
variable {R : Type} (q : Cf) (k : Ex → St → Option R)

theorem app_nil (e : Ex) (s : St) : @app q ⟨[]⟩ e s _ ⟨k⟩ = k e s := by simp only [app]; rw [appR]
theorem app_seq (b : Code) (y : Ann) (K : List Fr) (s : St) : @app q ⟨(.seq b y :: K)⟩ .normal s _ ⟨k⟩ = @X q ⟨(b, y, K)⟩ s _ ⟨k⟩ := by simp only [app]; rw [appR]; rfl
theorem app_seq_exit (b : Code) (y : Ann) (K : List Fr) (i : Nat) (s : St) : @app q ⟨(.seq b y :: K)⟩ (.exit i) s _ ⟨k⟩ = @app q ⟨K⟩ (.exit i) s _ ⟨k⟩ := by simp only [app]; rw [appR]; simp
theorem app_seq_ret (b : Code) (y : Ann) (K : List Fr) (s : St) : @app q ⟨(.seq b y :: K)⟩ .ret s _ ⟨k⟩ = @app q ⟨K⟩ .ret s _ ⟨k⟩ := by simp only [app]; rw [appR]; simp
theorem app_blk (i : Nat) (K : List Fr) (s : St) : @app q ⟨(.blk i :: K)⟩ .normal s _ ⟨k⟩ = @app q ⟨K⟩ .normal s _ ⟨k⟩ := by simp only [app]; rw [appR]; simp
theorem app_blk_ret (i : Nat) (K : List Fr) (s : St) : @app q ⟨(.blk i :: K)⟩ .ret s _ ⟨k⟩ = @app q ⟨K⟩ .ret s _ ⟨k⟩ := by simp only [app]; rw [appR]; simp
theorem app_blk_exit (i j : Nat) (K : List Fr) (s : St) : @app q ⟨(.blk i :: K)⟩ (.exit j) s _ ⟨k⟩ = if j = i then @app q ⟨K⟩ .normal s _ ⟨k⟩ else @app q ⟨K⟩ (.exit j) s _ ⟨k⟩ := by simp only [app]; rw [appR]

theorem app_chk (las sas : List Operand) (K : List Fr) (e : Ex) (s : St) : @app q ⟨(.chk las sas :: K)⟩ e s _ ⟨k⟩ = br (q.E.farA s.tmps las sas) (@app q ⟨K⟩ e s _ ⟨k⟩) none := by simp only [app]; rw [appR]; rfl
theorem farA_eq (E : Env) (tmps : List AV) (las sas : List Operand) : E.farA tmps las sas = (las.map (E.opnd tmps)).all (farV (sas.map (E.opnd tmps))) := rfl
theorem farV_ref (l : List AV) (b : Nat) (π : List Stp) : farV l (.ref b π) = l.all (farR b) := rfl
theorem farV_pp (l : List AV) (d : PD) : farV l (.pp d) = true := rfl
theorem farR_ref (b b' : Nat) (π : List Stp) : farR b (.ref b' π) = (b != b') := rfl

variable (K : List Fr) (s : St)

theorem X_skip (an : Ann) : @X q ⟨(.skip, an, K)⟩ s _ ⟨k⟩ = @app q ⟨K⟩ .normal s _ ⟨k⟩ := by simp only [X, app, Env.code]
theorem X_exit (an : Ann) (i : Nat) : @X q ⟨((.exit i), an, K)⟩ s _ ⟨k⟩ = @app q ⟨K⟩ (.exit i) s _ ⟨k⟩ := by simp only [X, app, Env.code]
theorem X_ret (an : Ann) : @X q ⟨(.ret, an, K)⟩ s _ ⟨k⟩ = @app q ⟨K⟩ .ret s _ ⟨k⟩ := by simp only [X, app, Env.code]
theorem X_seq (a b : Code) (x y : Ann) : @X q ⟨((.seq a b), (.s x y), K)⟩ s _ ⟨k⟩ = @X q ⟨(a, x, (.seq b y :: K))⟩ s _ ⟨k⟩ := by
  simp only [X, Env.code]; congr 1
theorem X_seqo (a b : Code) : @X q ⟨((.seq a b), .o, K)⟩ s _ ⟨k⟩ = @X q ⟨(a, .o, (.seq b .o :: K))⟩ s _ ⟨k⟩ := by
  simp only [X, Env.code]; congr 1
theorem X_block (i : Nat) (a : Code) (x : Ann) : @X q ⟨((.block i a), (.i x), K)⟩ s _ ⟨k⟩ = @X q ⟨(a, x, (.blk i :: K))⟩ s _ ⟨k⟩ := by
  simp only [X, Env.code]; congr 1
theorem X_blocko (i : Nat) (a : Code) : @X q ⟨((.block i a), .o, K)⟩ s _ ⟨k⟩ = @X q ⟨(a, .o, (.blk i :: K))⟩ s _ ⟨k⟩ := by
  simp only [X, Env.code]; congr 1

def condV : AV → Option Bool
  | .p (.bool t) => some t
  | _ => none

/-- A test. -/
noncomputable def XT (q : Cf) (v : AV) [c : Hid (Code × Code × Ann × Ann × List Fr)] (s : St) {R : Type} [k : Hid (Ex → St → Option R)] : Option R := match v with
  | .p (.bool t) => if t then @X q ⟨(c.val.1, c.val.2.2.1, c.val.2.2.2.2)⟩ s _ k else @X q ⟨(c.val.2.1, c.val.2.2.2.1, c.val.2.2.2.2)⟩ s _ k
  | .anyb => bothW (@X q ⟨(c.val.1, c.val.2.2.1, c.val.2.2.2.2)⟩ s _ k) (@X q ⟨(c.val.2.1, c.val.2.2.2.1, c.val.2.2.2.2)⟩ s _ k)
  | _ => none
theorem X_cond (c : Operand) (a b : Code) (x y : Ann) : @X q ⟨((.cond c a b), (.s x y), K)⟩ s _ ⟨k⟩ = @XT q (q.E.opnd s.tmps c) ⟨(a, b, x, y, K)⟩ s _ ⟨k⟩ := by
  simp only [X, Env.code, XT]; rfl
theorem X_condo (c : Operand) (a b : Code) : @X q ⟨((.cond c a b), .o, K)⟩ s _ ⟨k⟩ = @XT q (q.E.opnd s.tmps c) ⟨(a, b, .o, .o, K)⟩ s _ ⟨k⟩ := by
  simp only [X, Env.code, XT]; rfl
theorem XT_bool (t : Bool) (a b : Code) (x y : Ann) : @XT q (.p (.bool t)) ⟨(a, b, x, y, K)⟩ s _ ⟨k⟩ = br t (@X q ⟨(a, x, K)⟩ s _ ⟨k⟩) (@X q ⟨(b, y, K)⟩ s _ ⟨k⟩) := rfl
theorem XT_any (a b : Code) (x y : Ann) : @XT q .anyb ⟨(a, b, x, y, K)⟩ s _ ⟨k⟩ = bothW (@X q ⟨(a, x, K)⟩ s _ ⟨k⟩) (@X q ⟨(b, y, K)⟩ s _ ⟨k⟩) := rfl

/-- Operations. 'f': calm ones alone; 'tail': what follows then. -/
noncomputable def runF (q : Cf) (f : Bool) (s : St) (o : Oper) : Option (Res × Heap) :=
  if f then (q.E.calm q.C s.tmps s.heap o).map fun r => (.ret r.1, s.heap ++ r.2) else q.E.run q.C s.tmps s.heap o

/-- 'm': so many at the head are calm ones. -/
noncomputable def XF (q : Cf) (m : Nat) [c : Hid (Array Oper × List Oper × List Fr)] (s : St) {R : Type} [k : Hid (Ex → St → Option R)] : Option R :=
  q.E.opsC q.C c.val.1 (c.val.2.1.take m) s fun s' => q.E.ops q.C c.val.1 (c.val.2.1.drop m) s' (appR q k.val c.val.2.2)

noncomputable def XR (q : Cf) (m : Nat) (dst : Option Tmp) (op : Op) (ty : Nat) [c : Hid (Array Oper × List Oper × List Fr)] (s : St) {R : Type} [k : Hid (Ex → St → Option R)] : Option R :=
  (runF q (m != 0) s ⟨dst, op, ty, "", #[], none⟩).bind fun r => match r.1 with
    | .ret v => @XF q (m - 1) c (s.put dst v r.2) _ k
    | .panic v => if m != 0 then none else appR q k.val c.val.2.2 (.panic v) ⟨s.tmps, r.2⟩

theorem X_region (i : Nat) (l : List Oper) (an : Ann) : @X q ⟨((.region i (List.toArray l) false), an, K)⟩ s _ ⟨k⟩ = @XF q 0 ⟨((List.toArray l), l, K)⟩ s _ ⟨k⟩ := by
  simp only [X, Env.code, Env.region, XF, List.take_zero, List.drop_zero, Env.opsC, Bool.false_eq_true, if_false]
theorem X_drawc (m : Nat) (las sas : List Operand) (i : Nat) (l : List Oper) (an : Ann) (h : (drawOk (List.toArray l) m, headAt (List.toArray l) an, lateA (List.toArray l) m) = (true, m, las, sas)) :
    @X q ⟨((.region i (List.toArray l) true), an, K)⟩ s _ ⟨k⟩ = @XF q m ⟨((List.toArray l), l, .chk las sas :: K)⟩ s _ ⟨k⟩ := by
  simp only [Prod.mk.injEq] at h
  obtain ⟨h1, h2, h3⟩ := h
  simp only [X, Env.code, Env.region, XF, h1, h2, h3, if_true]
  congr 1
theorem X_draw (m : Nat) (sas : List Operand) (i : Nat) (l : List Oper) (an : Ann) (h : (drawOk (List.toArray l) m, headAt (List.toArray l) an, lateA (List.toArray l) m) = (true, m, [], sas)) :
    @X q ⟨((.region i (List.toArray l) true), an, K)⟩ s _ ⟨k⟩ = @XF q m ⟨((List.toArray l), l, K)⟩ s _ ⟨k⟩ := by
  simp only [Prod.mk.injEq] at h
  obtain ⟨h1, h2, h3⟩ := h
  simp only [X, Env.code, Env.region, XF, h1, h2, h3, if_true, Env.farA, List.map_nil, List.all_nil]

theorem XF_nil (ops : Array Oper) (m : Nat) : @XF q m ⟨(ops, [], K)⟩ s _ ⟨k⟩ = @app q ⟨K⟩ .normal s _ ⟨k⟩ := by
  simp only [XF, app, Env.ops, Env.opsC, List.take_nil, List.drop_nil]

theorem calm_same (E : Env) (C : Sem') (tmps : List AV) (H : Heap) (o o' : Oper) (h1 : o.op = o'.op) (h2 : o.type = o'.type) : E.calm C tmps H o = E.calm C tmps H o' := by
  unfold Env.calm
  rw [h1, h2]
theorem run_same (E : Env) (C : Sem') (tmps : List AV) (H : Heap) (o o' : Oper) (h1 : o.op = o'.op) (h2 : o.type = o'.type) : E.run C tmps H o = E.run C tmps H o' := by
  have hs : settleOps o = settleOps o' := by unfold settleOps; rw [h1]
  unfold Env.run Env.run0
  rw [hs, h1, calm_same E C tmps _ o o' h1 h2]

theorem XF_cons (ops : Array Oper) (m : Nat) (dst : Option Tmp) (op : Op) (ty : Nat) (pos : String) (af : Array Go.Edge) (l : List Oper) :
    @XF q m ⟨(ops, (⟨dst, op, ty, pos, af, none⟩ :: l), K)⟩ s _ ⟨k⟩ = @XR q m dst op ty ⟨(ops, l, K)⟩ s _ ⟨k⟩ := by
  cases m with
  | zero =>
    simp only [XF, XR, List.take_zero, List.drop_zero, Env.opsC, Env.ops, Env.step, wantedA, runF, Option.bind_some, if_true, Nat.zero_sub, bne_self_eq_false, Bool.false_eq_true, if_false]
    rw [run_same q.E q.C s.tmps s.heap ⟨dst, op, ty, pos, af, none⟩ ⟨dst, op, ty, "", #[], none⟩ rfl rfl]
    rfl
  | succ m =>
    simp only [XF, XR, List.take_succ_cons, List.drop_succ_cons, Env.opsC, Env.stepC, wantedA, runF, Option.bind_some, if_true, Nat.add_sub_cancel]
    rw [calm_same q.E q.C s.tmps s.heap ⟨dst, op, ty, pos, af, none⟩ ⟨dst, op, ty, "", #[], none⟩ rfl rfl]
    rfl

/-- The test of a guard. -/
noncomputable def XG (q : Cf) (m : Nat) (v : AV) (want : Bool) (dst : Option Tmp) (op : Op) (ty : Nat) [c : Hid (Array Oper × List Oper × List Fr)] (s : St) {R : Type} [k : Hid (Ex → St → Option R)] : Option R := match v with
  | .p (.bool b) => if b == want then @XR q m dst op ty c s _ k else @XF q (m - 1) c (s.put dst (.tup []) s.heap) _ k
  | .tup [] => @XF q (m - 1) c (s.put dst (.tup []) s.heap) _ k
  | _ => none

def gdstR : List Oper → Nat → Option Tmp
  | [], _ => none
  | ⟨d, _, _, _, _, _⟩ :: _, 0 => d
  | ⟨_, _, _, _, _, _⟩ :: l, j + 1 => gdstR l j
def gdst [l : Hid (List Oper)] (j : Nat) : Option Tmp := gdstR l.val j
theorem gdst_zero (d : Option Tmp) (a : Op) (b : Nat) (c : String) (e : Array Go.Edge) (x : Option (Nat × Bool)) (l : List Oper) : @gdst ⟨⟨d, a, b, c, e, x⟩ :: l⟩ 0 = d := rfl
theorem gdst_succ (d : Option Tmp) (a : Op) (b : Nat) (c : String) (e : Array Go.Edge) (x : Option (Nat × Bool)) (l : List Oper) (j : Nat) : @gdst ⟨⟨d, a, b, c, e, x⟩ :: l⟩ (j + 1) = @gdst ⟨l⟩ j := rfl
theorem gdst_eq : ∀ (l : List Oper) (j : Nat), @gdst ⟨l⟩ j = (l[j]?).bind (·.dst)
  | [], j => by simp [gdst, gdstR]
  | ⟨d, a, b, c, e, x⟩ :: l, 0 => rfl
  | ⟨d, a, b, c, e, x⟩ :: l, j + 1 => by rw [gdst_succ, gdst_eq l j]; simp

noncomputable def XGt (q : Cf) (m : Nat) (t : Option Tmp) (want : Bool) (dst : Option Tmp) (op : Op) (ty : Nat) [c : Hid (Array Oper × List Oper × List Fr)] (s : St) {R : Type} [k : Hid (Ex → St → Option R)] : Option R := match t with
  | some t => @XG q m (s.tmps.getD t .unk) want dst op ty c s _ k
  | none => none
theorem XGt_some (ops : Array Oper) (m : Nat) (t : Tmp) (want : Bool) (dst : Option Tmp) (op : Op) (ty : Nat) (l : List Oper) :
    @XGt q m (some t) want dst op ty ⟨(ops, l, K)⟩ s _ ⟨k⟩ = @XG q m (s.tmps.getD t .unk) want dst op ty ⟨(ops, l, K)⟩ s _ ⟨k⟩ := rfl

theorem XF_guard (os : List Oper) (m : Nat) (dst : Option Tmp) (op : Op) (ty : Nat) (pos : String) (af : Array Go.Edge) (j : Nat) (want : Bool) (l : List Oper) :
    @XF q m ⟨((List.toArray os), (⟨dst, op, ty, pos, af, some (j, want)⟩ :: l), K)⟩ s _ ⟨k⟩ = @XGt q m (@gdst ⟨os⟩ j) want dst op ty ⟨((List.toArray os), l, K)⟩ s _ ⟨k⟩ := by
  have hg : ((List.toArray os)[j]?).bind (·.dst) = @gdst ⟨os⟩ j := by rw [gdst_eq]; simp
  cases m with
  | zero =>
    simp only [XF, XGt, List.take_zero, List.drop_zero, Env.opsC, Env.ops, Env.step, wantedA, hg]
    cases @gdst ⟨os⟩ j with
    | none => simp
    | some t =>
      simp only [XG]
      generalize s.tmps.getD t .unk = v
      cases v with
      | p d =>
        cases d with
        | bool b =>
          simp only [Option.bind_some]
          cases b == want
          · simp [XF, Env.opsC]
          · simp only [if_true, XR, runF, bne_self_eq_false, Bool.false_eq_true, if_false, XF, Nat.zero_sub, List.take_zero, List.drop_zero, Env.opsC]
            rw [run_same q.E q.C s.tmps s.heap ⟨dst, op, ty, pos, af, some (j, want)⟩ ⟨dst, op, ty, "", #[], none⟩ rfl rfl]
            rfl
        | _ => simp
      | tup l => cases l <;> simp [XF, Env.opsC]
      | _ => simp
  | succ m =>
    simp only [XF, XGt, List.take_succ_cons, List.drop_succ_cons, Env.opsC, Env.stepC, wantedA, hg]
    cases @gdst ⟨os⟩ j with
    | none => simp
    | some t =>
      simp only [XG]
      generalize s.tmps.getD t .unk = v
      cases v with
      | p d =>
        cases d with
        | bool b =>
          simp only [Option.bind_some]
          cases b == want
          · simp [XF]
          · simp only [if_true, XR, runF, XF, Nat.add_sub_cancel]
            rw [calm_same q.E q.C s.tmps s.heap ⟨dst, op, ty, pos, af, some (j, want)⟩ ⟨dst, op, ty, "", #[], none⟩ rfl rfl]
            rfl
        | _ => simp
      | tup l => cases l <;> simp [XF]
      | _ => simp
theorem XG_true (ops : Array Oper) (m : Nat) (b : Bool) (dst : Option Tmp) (op : Op) (ty : Nat) (l : List Oper) :
    @XG q m (.p (.bool b)) true dst op ty ⟨(ops, l, K)⟩ s _ ⟨k⟩ = br b (@XR q m dst op ty ⟨(ops, l, K)⟩ s _ ⟨k⟩) (@XF q (m - 1) ⟨(ops, l, K)⟩ (s.put dst (.tup []) s.heap) _ ⟨k⟩) := by
  cases b <;> rfl
theorem XG_und (ops : Array Oper) (m : Nat) (want : Bool) (dst : Option Tmp) (op : Op) (ty : Nat) (l : List Oper) :
    @XG q m (.tup []) want dst op ty ⟨(ops, l, K)⟩ s R ⟨k⟩ = @XF q (m - 1) ⟨(ops, l, K)⟩ (s.put dst (.tup []) s.heap) R ⟨k⟩ := rfl
theorem XG_false (ops : Array Oper) (m : Nat) (b : Bool) (dst : Option Tmp) (op : Op) (ty : Nat) (l : List Oper) :
    @XG q m (.p (.bool b)) false dst op ty ⟨(ops, l, K)⟩ s _ ⟨k⟩ = br b (@XF q (m - 1) ⟨(ops, l, K)⟩ (s.put dst (.tup []) s.heap) _ ⟨k⟩) (@XR q m dst op ty ⟨(ops, l, K)⟩ s _ ⟨k⟩) := by
  cases b <;> rfl

end
end Ev

/- The machine's rules: operations. -/
set_option linter.unusedSimpArgs false
set_option linter.unusedVariables false
namespace Ev
open Go (Value Addr Fn IntKind Oper Op Operand Code Tmp BinOp UnOp Builtin)

section
variable {R : Type} (q : Cf) (k : Ex → St → Option R) (K : List Fr) (s : St) (ops : Array Oper) (m : Nat) (dst : Option Tmp) (ty : Nat) (l : List Oper)

def calmOp : Op → Bool
  | .store .. | .mapUpdate .. | .panic .. | .call _ => false
  | _ => true

/-- A calm operation. -/
theorem XR_calm (op : Op) (h : calmOp op = true) : @XR q m dst op ty ⟨(ops, l, K)⟩ s _ ⟨k⟩ = bd (q.E.calm q.C s.tmps s.heap ⟨dst, op, ty, "", #[], none⟩) fun r => @XF q (m - 1) ⟨(ops, l, K)⟩ (s.put dst r.1 (s.heap ++ r.2)) _ ⟨k⟩ := by
  have hr : runF q (m != 0) s ⟨dst, op, ty, "", #[], none⟩ = (q.E.calm q.C s.tmps s.heap ⟨dst, op, ty, "", #[], none⟩).map fun r => (Res.ret r.1, s.heap ++ r.2) := by
    unfold runF
    cases (m != 0)
    · simp only [Bool.false_eq_true, if_false]
      cases op <;> first | rfl | (simp [calmOp] at h)
    · rfl
  rw [XR, hr, bd]
  cases q.E.calm q.C s.tmps s.heap ⟨dst, op, ty, "", #[], none⟩ <;> rfl

/-- One value, and nothing new. -/
theorem XR_val (op : Op) (h : calmOp op = true) {v : Option AV} (hv : q.E.calm q.C s.tmps s.heap ⟨dst, op, ty, "", #[], none⟩ = v.map fun a => (a, [])) :
    @XR q m dst op ty ⟨(ops, l, K)⟩ s _ ⟨k⟩ = bd v fun v => @XF q (m - 1) ⟨(ops, l, K)⟩ (s.put dst v s.heap) _ ⟨k⟩ := by
  rw [XR_calm q k K s ops m dst ty l op h, hv]
  cases v <;> simp [bd]


theorem XR_move (x : Operand) : @XR q m dst (.move x) ty ⟨(ops, l, K)⟩ s _ ⟨k⟩ = @XF q (m - 1) ⟨(ops, l, K)⟩ (s.put dst (q.E.fixNil ty (q.E.opnd s.tmps x)) s.heap) _ ⟨k⟩ := by
  rw [XR_val q k K s ops m dst ty l _ rfl (v := some (q.E.fixNil ty (q.E.opnd s.tmps x))) (by simp only [Env.calm]; rfl)]; rfl
theorem XR_assign (x : Operand) : @XR q m dst (.assign x) ty ⟨(ops, l, K)⟩ s _ ⟨k⟩ = @XF q (m - 1) ⟨(ops, l, K)⟩ (s.put dst (q.E.fixNil ty (q.E.opnd s.tmps x)) s.heap) _ ⟨k⟩ := by
  rw [XR_val q k K s ops m dst ty l _ rfl (v := some (q.E.fixNil ty (q.E.opnd s.tmps x))) (by simp only [Env.calm]; rfl)]; rfl

def pickV : AV → AV → AV → Option AV
  | .p (.bool t), a, b => br t (some a) (some b)
  | _, _, _ => none
theorem pickV_bool (t : Bool) (a b : AV) : pickV (.p (.bool t)) a b = br t (some a) (some b) := rfl
theorem XR_pick (c a b : Operand) : @XR q m dst (.pick c a b) ty ⟨(ops, l, K)⟩ s _ ⟨k⟩ = bd (pickV (q.E.opnd s.tmps c) (q.E.opnd s.tmps a) (q.E.opnd s.tmps b)) fun v => @XF q (m - 1) ⟨(ops, l, K)⟩ (s.put dst v s.heap) _ ⟨k⟩ := by
  refine XR_val q k K s ops m dst ty l _ rfl ?_
  simp only [Env.calm]
  generalize q.E.opnd s.tmps c = v
  cases v with
  | p d => cases d with
    | bool t => cases t <;> rfl
    | _ => rfl
  | _ => rfl

theorem XR_alloc (e : Nat) : @XR q m dst (.alloc e) ty ⟨(ops, l, K)⟩ s _ ⟨k⟩ = bd (q.E.ty e) fun t => @XF q (m - 1) ⟨(ops, l, K)⟩ (s.put dst (.ref s.heap.length []) (s.heap ++ [.var t.zero false])) _ ⟨k⟩ := by
  rw [XR_calm q k K s ops m dst ty l _ rfl]
  simp only [Env.calm]
  cases q.E.ty e <;> rfl
theorem XR_box (e : Nat) (x : Operand) : @XR q m dst (.box e x) ty ⟨(ops, l, K)⟩ s _ ⟨k⟩ = br (q.E.opnd s.tmps x).storable (@XF q (m - 1) ⟨(ops, l, K)⟩ (s.put dst (.ref s.heap.length []) (s.heap ++ [.var (q.E.opnd s.tmps x) false])) _ ⟨k⟩) none := by
  rw [XR_calm q k K s ops m dst ty l _ rfl]
  simp only [Env.calm]
  cases (q.E.opnd s.tmps x).storable <;> rfl
theorem XR_build (t : Nat) (parts : Array (Nat × Operand)) : @XR q m dst (.build t parts) ty ⟨(ops, l, K)⟩ s _ ⟨k⟩ = bd (q.E.buildA t (parts.toList.map fun x => (x.1, q.E.opnd s.tmps x.2))) fun v => @XF q (m - 1) ⟨(ops, l, K)⟩ (s.put dst v s.heap) _ ⟨k⟩ :=
  XR_val q k K s ops m dst ty l _ rfl rfl

/-- A slice's literal. -/
def Env.sliceLit (E : Env) (H : Heap) (t len : Nat) (ix : List Nat) (vs : List AV) : Option (AV × List Obj) :=
  bd (E.elem t) fun et => if len * et.cells ≤ 16777216 ∧ ix = List.range len then
    (match allP vs with
      | some ds => if ds.all fun d => d.cells == et.cells then some (.own H.length 0, [.row et.cells ds false]) else none
      | none => if vs.all fun d => d.cells == some et.cells then some (.own H.length 0, [.mrow et.cells vs]) else none) else none
theorem XR_buildSlice (t n : Nat) (parts : Array (Nat × Operand)) : @XR q m dst (.buildSlice t n parts) ty ⟨(ops, l, K)⟩ s _ ⟨k⟩ =
    bd (q.E.sliceLit s.heap t n (parts.toList.map (·.1)) (parts.toList.map fun x => q.E.opnd s.tmps x.2)) fun r => @XF q (m - 1) ⟨(ops, l, K)⟩ (s.put dst r.1 (s.heap ++ r.2)) _ ⟨k⟩ := by
  rw [XR_calm q k K s ops m dst ty l _ rfl]; rfl
theorem XR_load (t : Nat) (x : Operand) : @XR q m dst (.load t x) ty ⟨(ops, l, K)⟩ s _ ⟨k⟩ = bd (q.E.loadA s.heap t (q.E.opnd s.tmps x)) fun v => @XF q (m - 1) ⟨(ops, l, K)⟩ (s.put dst v s.heap) _ ⟨k⟩ :=
  XR_val q k K s ops m dst ty l _ rfl rfl

def nilChkA : AV → Option AV
  | .ref b π => some (.ref b π)
  | .pp d => some (.pp d)
  | .clo (.func f) a b => some (.clo (.func f) a b)
  | .p (.fn (.func f)) => some (.p (.fn (.func f)))
  | _ => none
theorem XR_nilCheck (x : Operand) : @XR q m dst (.nilCheck x) ty ⟨(ops, l, K)⟩ s _ ⟨k⟩ = bd (nilChkA (q.E.opnd s.tmps x)) fun v => @XF q (m - 1) ⟨(ops, l, K)⟩ (s.put dst v s.heap) _ ⟨k⟩ := by
  refine XR_val q k K s ops m dst ty l _ rfl ?_
  simp only [Env.calm]
  generalize q.E.opnd s.tmps x = v
  cases v with
  | p d => cases d with
    | fn g => cases g <;> rfl
    | _ => rfl
  | clo g a b => cases g <;> rfl
  | _ => rfl
theorem XR_bin (op : BinOp) (t : Nat) (x y : Operand) (t2 : Nat) : @XR q m dst (.binOp op t x y t2) ty ⟨(ops, l, K)⟩ s _ ⟨k⟩ =
    br (isNilC y) (bd (q.E.nilCmpA s.heap op t (q.E.opnd s.tmps x)) fun v => @XF q (m - 1) ⟨(ops, l, K)⟩ (s.put dst v s.heap) _ ⟨k⟩)
    (bd (q.E.binA op t (q.E.opnd s.tmps x) (q.E.opnd s.tmps y)) fun v => @XF q (m - 1) ⟨(ops, l, K)⟩ (s.put dst v s.heap) _ ⟨k⟩) := by
  cases h : isNilC y
  · exact XR_val q k K s ops m dst ty l _ rfl (by simp only [Env.calm, h]; rfl)
  · exact XR_val q k K s ops m dst ty l _ rfl (by simp only [Env.calm, h]; rfl)
theorem XR_un (op : UnOp) (t : Nat) (x : Operand) : @XR q m dst (.unOp op t x) ty ⟨(ops, l, K)⟩ s _ ⟨k⟩ = bd (unA op (q.E.opnd s.tmps x)) fun v => @XF q (m - 1) ⟨(ops, l, K)⟩ (s.put dst v s.heap) _ ⟨k⟩ :=
  XR_val q k K s ops m dst ty l _ rfl rfl
def Env.convV (E : Env) (H : Heap) (src dst : Nat) (x : AV) : Option (AV × List Obj) := match E.bytesA src dst x with
    | some ds => some (.own H.length 0, [.row 1 ds false])
    | none => if (E.ty src).isSome then (E.convA src dst x).map fun a => (a, []) else none
theorem XR_convert (src d : Nat) (x : Operand) : @XR q m dst (.convert src d x) ty ⟨(ops, l, K)⟩ s _ ⟨k⟩ = bd (q.E.convV s.heap src d (q.E.opnd s.tmps x)) fun r => @XF q (m - 1) ⟨(ops, l, K)⟩ (s.put dst r.1 (s.heap ++ r.2)) _ ⟨k⟩ := by
  rw [XR_calm q k K s ops m dst ty l _ rfl]; rfl
theorem XR_makeFunc (g : Nat) (a b : Array Operand) : @XR q m dst (.makeFunc (.func g) a b) ty ⟨(ops, l, K)⟩ s _ ⟨k⟩ = @XF q (m - 1) ⟨(ops, l, K)⟩ (s.put dst (.clo (.func g) (a.toList.map (q.E.opnd s.tmps)) (b.toList.map (q.E.opnd s.tmps))) s.heap) _ ⟨k⟩ := by
  rw [XR_val q k K s ops m dst ty l _ rfl (v := some (.clo (.func g) (a.toList.map (q.E.opnd s.tmps)) (b.toList.map (q.E.opnd s.tmps)))) (by simp only [Env.calm]; rfl)]; rfl

def Env.newMap (E : Env) (H : Heap) (t : Nat) : Option (AV × List Obj) := match E.ty t with
    | some ⟨.map kt vt, _, _, _⟩ => some (.map H.length, [.map kt vt []])
    | _ => none
theorem XR_makeMap (t : Nat) : @XR q m dst (.makeMap t none) ty ⟨(ops, l, K)⟩ s _ ⟨k⟩ = bd (q.E.newMap s.heap t) fun r => @XF q (m - 1) ⟨(ops, l, K)⟩ (s.put dst r.1 (s.heap ++ r.2)) _ ⟨k⟩ := by
  rw [XR_calm q k K s ops m dst ty l _ rfl]; rfl
theorem XR_makeMap2 (t : Nat) (x : Operand) : @XR q m dst (.makeMap t (some x)) ty ⟨(ops, l, K)⟩ s _ ⟨k⟩ = br (intA (q.E.opnd s.tmps x)).isSome (bd (q.E.newMap s.heap t) fun r => @XF q (m - 1) ⟨(ops, l, K)⟩ (s.put dst r.1 (s.heap ++ r.2)) _ ⟨k⟩) none := by
  rw [XR_calm q k K s ops m dst ty l _ rfl]
  simp only [Env.calm]
  by_cases h : (intA (q.E.opnd s.tmps x)).isSome = true
  · rw [if_pos h, h]; rfl
  · rw [if_neg h]; simp only [Bool.not_eq_true] at h; rw [h]; rfl

def Env.newSlice (E : Env) (H : Heap) (t : Nat) (n m : AV) : Option (AV × List Obj) := bd (E.elem t) fun et => match n, m, freeze H et.zero with
    | .p (.int _ n), .p (.int _ m), some z => if 0 ≤ n ∧ n ≤ m ∧ m * et.bytes ≤ 2 ^ 47 ∧ m < 2 ^ 47 then
        some (.win H.length [] et.cells 0 n.toNat m.toNat true, [.row et.cells (List.replicate m.toNat z) false]) else none
    | _, _, _ => none
theorem XR_makeSlice (t : Nat) (x y : Operand) : @XR q m dst (.makeSlice t x y) ty ⟨(ops, l, K)⟩ s _ ⟨k⟩ = bd (q.E.newSlice s.heap t (q.E.opnd s.tmps x) (q.E.opnd s.tmps y)) fun r => @XF q (m - 1) ⟨(ops, l, K)⟩ (s.put dst r.1 (s.heap ++ r.2)) _ ⟨k⟩ := by
  rw [XR_calm q k K s ops m dst ty l _ rfl]; rfl
theorem XR_slice (t : Nat) (x : Operand) (lo hi mx : Option Operand) : @XR q m dst (.slice t x lo hi mx) ty ⟨(ops, l, K)⟩ s _ ⟨k⟩ =
    bd (bd (optInt (lo.map (q.E.opnd s.tmps))) fun lo => bd (optInt (hi.map (q.E.opnd s.tmps))) fun hi => bd (optInt (mx.map (q.E.opnd s.tmps))) fun mx => q.E.sliceA s.heap t (q.E.opnd s.tmps x) lo hi mx) fun v => @XF q (m - 1) ⟨(ops, l, K)⟩ (s.put dst v s.heap) _ ⟨k⟩ := by
  refine XR_val q k K s ops m dst ty l _ rfl ?_
  simp only [Env.calm, bd]
  cases optInt (lo.map (q.E.opnd s.tmps)) <;> cases optInt (hi.map (q.E.opnd s.tmps)) <;> cases optInt (mx.map (q.E.opnd s.tmps)) <;> rfl
theorem XR_fieldAddr (t : Nat) (x : Operand) (i : Nat) : @XR q m dst (.fieldAddr t x i) ty ⟨(ops, l, K)⟩ s _ ⟨k⟩ = bd (q.E.fieldAddrA t (q.E.opnd s.tmps x) i) fun v => @XF q (m - 1) ⟨(ops, l, K)⟩ (s.put dst v s.heap) _ ⟨k⟩ :=
  XR_val q k K s ops m dst ty l _ rfl rfl
theorem XR_field (t : Nat) (x : Operand) (i : Nat) : @XR q m dst (.field t x i) ty ⟨(ops, l, K)⟩ s _ ⟨k⟩ = bd (q.E.fieldA t (q.E.opnd s.tmps x) i) fun v => @XF q (m - 1) ⟨(ops, l, K)⟩ (s.put dst v s.heap) _ ⟨k⟩ :=
  XR_val q k K s ops m dst ty l _ rfl rfl
theorem XR_indexAddr (t : Nat) (x i : Operand) : @XR q m dst (.indexAddr t x i) ty ⟨(ops, l, K)⟩ s _ ⟨k⟩ = bd (bd (intA (q.E.opnd s.tmps i)) fun i => q.E.indexAddrA s.heap t (q.E.opnd s.tmps x) i) fun v => @XF q (m - 1) ⟨(ops, l, K)⟩ (s.put dst v s.heap) _ ⟨k⟩ := by
  refine XR_val q k K s ops m dst ty l _ rfl ?_
  simp only [Env.calm, bd]
  cases intA (q.E.opnd s.tmps i) <;> rfl
theorem XR_index (t : Nat) (x i : Operand) : @XR q m dst (.index t x i) ty ⟨(ops, l, K)⟩ s _ ⟨k⟩ = bd (bd (intA (q.E.opnd s.tmps i)) fun i => q.E.indexA t (q.E.opnd s.tmps x) i) fun v => @XF q (m - 1) ⟨(ops, l, K)⟩ (s.put dst v s.heap) _ ⟨k⟩ := by
  refine XR_val q k K s ops m dst ty l _ rfl ?_
  simp only [Env.calm, bd]
  cases intA (q.E.opnd s.tmps i) <;> rfl
theorem XR_lookup (t : Nat) (x i : Operand) (ok : Bool) : @XR q m dst (.lookup t x i ok) ty ⟨(ops, l, K)⟩ s _ ⟨k⟩ = bd (q.E.lookupA s.heap t (q.E.opnd s.tmps x) (q.E.opnd s.tmps i) ok) fun v => @XF q (m - 1) ⟨(ops, l, K)⟩ (s.put dst v s.heap) _ ⟨k⟩ :=
  XR_val q k K s ops m dst ty l _ rfl rfl
def extrA : AV → Nat → Option AV
  | .tup vs, i => vs[i]?
  | _, _ => none
def ifcA (t : Nat) (x : AV) : Option Ty → Option AV
  | some ⟨.iface, _, _, _⟩ => none
  | some _ => some (.iface t x)
  | none => none
theorem XR_makeInterface (t : Nat) (x : Operand) : @XR q m dst (.makeInterface t x) ty ⟨(ops, l, K)⟩ s _ ⟨k⟩ = bd (ifcA t (q.E.opnd s.tmps x) (q.E.ty t)) fun v => @XF q (m - 1) ⟨(ops, l, K)⟩ (s.put dst v s.heap) _ ⟨k⟩ := by
  refine XR_val q k K s ops m dst ty l _ rfl ?_
  simp only [Env.calm]
  cases q.E.ty t with
  | none => rfl
  | some ty => obtain ⟨k, c, b, z⟩ := ty; cases k <;> rfl
theorem XR_extract (x : Operand) (i : Nat) : @XR q m dst (.extract x i) ty ⟨(ops, l, K)⟩ s _ ⟨k⟩ = bd (extrA (q.E.opnd s.tmps x) i) fun v => @XF q (m - 1) ⟨(ops, l, K)⟩ (s.put dst v s.heap) _ ⟨k⟩ := by
  refine XR_val q k K s ops m dst ty l _ rfl ?_
  simp only [Env.calm]
  cases q.E.opnd s.tmps x <;> rfl

/-! Not calm -/

theorem XR_store (t : Nat) (a x : Operand) : @XR q 0 dst (.store t a x) ty ⟨(ops, l, K)⟩ s _ ⟨k⟩ = bd (q.E.storeA s.heap t (q.E.opnd s.tmps a) (q.E.fixNil t (q.E.opnd s.tmps x))) fun H => @XF q 0 ⟨(ops, l, K)⟩ (s.put dst .unk H) _ ⟨k⟩ := by
  rw [XR, runF, bd]
  simp only [Env.run, Env.run0, settleOps, settles, List.map_nil, List.foldl_nil, Bool.false_eq_true, if_false]
  cases q.E.storeA s.heap t (q.E.opnd s.tmps a) (q.E.fixNil t (q.E.opnd s.tmps x)) <;> rfl
theorem XR_panic (x : Operand) : @XR q 0 dst (.panic x) ty ⟨(ops, l, K)⟩ s _ ⟨k⟩ = none := by
  rw [XR, runF]
  simp only [Env.run, Env.run0, settleOps, settles, List.map_nil, List.foldl_nil, Bool.false_eq_true, if_false]
  rfl
theorem XR_mapUpdate (t : Nat) (m x y : Operand) : @XR q 0 dst (.mapUpdate t m x y) ty ⟨(ops, l, K)⟩ s _ ⟨k⟩ = bd (q.E.mapPutA s.heap t (q.E.opnd s.tmps m) (q.E.opnd s.tmps x) (q.E.opnd s.tmps y)) fun H => @XF q 0 ⟨(ops, l, K)⟩ (s.put dst .unk H) _ ⟨k⟩ := by
  rw [XR, runF, bd]
  simp only [Env.run, Env.run0, settleOps, settles, List.map_nil, List.foldl_nil, Bool.false_eq_true, if_false]
  cases q.E.mapPutA s.heap t (q.E.opnd s.tmps m) (q.E.opnd s.tmps x) (q.E.opnd s.tmps y) <;> rfl
theorem XR_append (a b : Operand) (t u : Nat) : @XR q 0 dst (.call ⟨.builtin .append, #[a, b], #[t, u]⟩) ty ⟨(ops, l, K)⟩ s _ ⟨k⟩ =
    bd (q.E.appendA (settles s.heap [q.E.opnd s.tmps a, q.E.opnd s.tmps b]) t u (q.E.fixNil t (q.E.opnd s.tmps a)) (q.E.fixNil u (q.E.opnd s.tmps b))) fun r => @XF q 0 ⟨(ops, l, K)⟩ (s.put dst r.1 r.2) _ ⟨k⟩ := by
  have hr : runF q (0 != 0) s ⟨dst, .call ⟨.builtin .append, #[a, b], #[t, u]⟩, ty, "", #[], none⟩ =
    (q.E.appendA (settles s.heap [q.E.opnd s.tmps a, q.E.opnd s.tmps b]) t u (q.E.fixNil t (q.E.opnd s.tmps a)) (q.E.fixNil u (q.E.opnd s.tmps b))).map fun r => (Res.ret r.1, r.2) := rfl
  rw [XR, hr, bd]
  cases q.E.appendA (settles s.heap [q.E.opnd s.tmps a, q.E.opnd s.tmps b]) t u (q.E.fixNil t (q.E.opnd s.tmps a)) (q.E.fixNil u (q.E.opnd s.tmps b)) <;> rfl
theorem XR_copy (a b : Operand) (t u : Nat) : @XR q 0 dst (.call ⟨.builtin .copy, #[a, b], #[t, u]⟩) ty ⟨(ops, l, K)⟩ s _ ⟨k⟩ = bd (q.E.copyA s.heap t u (q.E.opnd s.tmps a) (q.E.opnd s.tmps b)) fun r => @XF q 0 ⟨(ops, l, K)⟩ (s.put dst (.p (.int .i64 r.1)) r.2) _ ⟨k⟩ := by
  rw [XR, runF, bd]
  simp only [Env.run, Env.run0, settleOps, settles, List.map_nil, List.foldl_nil, Bool.false_eq_true, if_false]
  cases q.E.copyA s.heap t u (q.E.opnd s.tmps a) (q.E.opnd s.tmps b) <;> rfl
def Env.lenV (E : Env) (H : Heap) (t : Nat) (x : AV) : Option Nat := if E.lenOk t x then lenA H x else none
theorem XR_len (x : Operand) (t : Nat) : @XR q m dst (.call ⟨.builtin .len, #[x], #[t]⟩) ty ⟨(ops, l, K)⟩ s _ ⟨k⟩ = bd (q.E.lenV s.heap t (q.E.opnd s.tmps x)) fun n => @XF q (m - 1) ⟨(ops, l, K)⟩ (s.put dst (.p (.int .i64 (Int.ofNat n))) s.heap) _ ⟨k⟩ := by
  have hc : q.E.calm q.C s.tmps s.heap ⟨dst, .call ⟨.builtin .len, #[x], #[t]⟩, ty, "", #[], none⟩ = if q.E.lenOk t (q.E.opnd s.tmps x) then (lenA s.heap (q.E.opnd s.tmps x)).map fun (n : Nat) => (AV.p (.int .i64 (Int.ofNat n)), ([] : List Obj)) else none := rfl
  have hr : runF q (m != 0) s ⟨dst, .call ⟨.builtin .len, #[x], #[t]⟩, ty, "", #[], none⟩ = (q.E.calm q.C s.tmps s.heap ⟨dst, .call ⟨.builtin .len, #[x], #[t]⟩, ty, "", #[], none⟩).map fun r => (Res.ret r.1, s.heap ++ r.2) := by
    unfold runF; cases (m != 0) <;> rfl
  rw [XR, hr, hc, Env.lenV]
  cases q.E.lenOk t (q.E.opnd s.tmps x) with
  | false => rfl
  | true => cases lenA s.heap (q.E.opnd s.tmps x) <;> simp [bd]

/-- A call whose callee is known: what follows. -/
noncomputable def XK (q : Cf) (m : Nat) (dst : Option Tmp) (as : List AV) (r : Res × Heap) [c : Hid (Array Oper × List Oper × List Fr)] (s : St) {R : Type} [k : Hid (Ex → St → Option R)] : Option R := match r.1 with
  | .ret x => if x.flat then @XF q (m - 1) c (s.put dst x s.heap) _ k
      else if (m != 0) && !(AV.leanss as).isEmpty then none
      else @XF q (m - 1) c (s.put dst (x.ren (shiftBy s.heap.length)) (s.heap.shut (AV.leanss as) ++ r.2.map (Obj.ren (shiftBy s.heap.length)))) _ k
  | .panic x => if m != 0 then none else appR q k.val c.val.2.2 (.panic (x.ren (shiftBy s.heap.length))) ⟨s.tmps, s.heap.shut (AV.leanss as) ++ r.2.map (Obj.ren (shiftBy s.heap.length))⟩
/-- Plain data comes back. -/
theorem XK_flat (as : List AV) (x : AV) (H : Heap) (h : x.flat = true) : @XK q m dst as (.ret x, H) ⟨(ops, l, K)⟩ s _ ⟨k⟩ = @XF q (m - 1) ⟨(ops, l, K)⟩ (s.put dst x s.heap) _ ⟨k⟩ := by
  simp only [XK, h, if_true]
theorem XK_ret (as : List AV) (x : AV) (H : Heap) (h : x.flat = false) : @XK q 0 dst as (.ret x, H) ⟨(ops, l, K)⟩ s _ ⟨k⟩ = @XF q 0 ⟨(ops, l, K)⟩ (s.put dst (x.ren (shiftBy s.heap.length)) (s.heap.shut (AV.leanss as) ++ H.map (Obj.ren (shiftBy s.heap.length)))) _ ⟨k⟩ := by
  simp only [XK, h, Bool.false_eq_true, if_false, bne_self_eq_false, Bool.false_and, Nat.zero_sub]
theorem XK_calm (as : List AV) (x : AV) (H : Heap) (h : x.flat = false) (ha : AV.leanss as = []) : @XK q m dst as (.ret x, H) ⟨(ops, l, K)⟩ s _ ⟨k⟩ = @XF q (m - 1) ⟨(ops, l, K)⟩ (s.put dst (x.ren (shiftBy s.heap.length)) (s.heap ++ H.map (Obj.ren (shiftBy s.heap.length)))) _ ⟨k⟩ := by
  simp only [XK, h, ha, Bool.false_eq_true, if_false, List.isEmpty_nil, Bool.not_true, Bool.and_false, Heap.shut, List.foldl_nil]

noncomputable def XK2 (q : Cf) (dst : Option Tmp) (r : Res × Heap) [c : Hid (Array Oper × List Oper × List Fr)] (s : St) {R : Type} [k : Hid (Ex → St → Option R)] : Option R := match r.1 with
  | .ret x => @XF q 0 c (s.put dst x r.2) _ k
  | .panic x => appR q k.val c.val.2.2 (.panic x) ⟨s.tmps, r.2⟩
theorem XK2_ret (x : AV) (H : Heap) : @XK2 q dst (.ret x, H) ⟨(ops, l, K)⟩ s _ ⟨k⟩ = @XF q 0 ⟨(ops, l, K)⟩ (s.put dst x H) _ ⟨k⟩ := rfl

/-- Whom is it that is called? 'ds': the arguments as data. -/
noncomputable def XC (q : Cf) (m : Nat) (dst : Option Tmp) (g : AV) (as : List AV) (ds : Option (List PD)) [c : Hid (Array Oper × List Oper × List Fr)] (s : St) {R : Type} [k : Hid (Ex → St → Option R)] : Option R := match g with
  | .p (.fn (.func g)) => if q.E.raw g then (if m != 0 then none else bd (q.C (.f g) as s.heap) fun r => @XK2 q dst r c s _ k) else match ds with
    | some ds => bd (q.C (.f g) (ds.map .p) []) fun r => @XK q m dst as r c s _ k
    | none => if m != 0 then none else bd (q.C (.f g) as s.heap) fun r => @XK2 q dst r c s _ k
  | .clo (.func g) a b => if m != 0 then none else bd (q.C (.f g) (a ++ as ++ b) s.heap) fun r => @XK2 q dst r c s _ k
  | .yld y => if m != 0 then none else match s.heap[y]? with
    | some (.loop ..) => bd (q.C (.y y) as s.heap) fun r => @XK2 q dst r c s _ k
    | _ => none
  | _ => none
theorem XR_call0 (g : Operand) (args : List Operand) (ats : Array Nat) : @XR q 0 dst (.call ⟨.value g, List.toArray args, ats⟩) ty ⟨(ops, l, K)⟩ s _ ⟨k⟩ =
    bd (q.E.args (q.E.opnd s.tmps) (List.toArray args) ats) fun as => @XC q 0 dst (q.E.opnd s.tmps g) as (freezes (settles s.heap (args.map (q.E.opnd s.tmps))) as) ⟨(ops, l, K)⟩ ⟨s.tmps, settles s.heap (args.map (q.E.opnd s.tmps))⟩ _ ⟨k⟩ := by
  rw [XR, runF]
  simp only [Env.run, Env.run0, settleOps, bne_self_eq_false, Bool.false_eq_true, if_false, bd, Option.bind_assoc, Nat.zero_sub]
  generalize settles s.heap (args.map (q.E.opnd s.tmps)) = H0
  congr 1
  funext as
  generalize q.E.opnd s.tmps g = v
  cases v with
  | p d => cases d with
    | fn g => cases g with
      | func g =>
        simp only [XC, bne_self_eq_false, Bool.false_eq_true, if_false]
        cases q.E.raw g
        · cases freezes H0 as with
          | none => simp only [Bool.false_eq_true, if_false, bd]; rfl
          | some ds =>
            simp only [Bool.false_eq_true, if_false, bd]
            cases q.C (.f g) (ds.map .p) [] with
            | none => rfl
            | some r =>
              obtain ⟨r, H⟩ := r
              cases r with
              | ret x => simp only [Option.bind_some, XK, bne_self_eq_false, Bool.false_and, Bool.false_eq_true, if_false, Nat.zero_sub]; cases x.flat <;> rfl
              | panic x => rfl
        · simp only [if_true, bd]; rfl
      | _ => rfl
    | _ => rfl
  | clo g a b => cases g <;> rfl
  | yld y =>
    simp only [XC, bne_self_eq_false, Bool.false_eq_true, if_false, bd]
    cases H0[y]? with
    | none => rfl
    | some o => cases o <;> rfl
  | _ => rfl
theorem XR_callS (g : Operand) (args : Array Operand) (ats : Array Nat) (m : Nat) : @XR q (m + 1) dst (.call ⟨.value g, args, ats⟩) ty ⟨(ops, l, K)⟩ s _ ⟨k⟩ =
    bd (q.E.args (q.E.opnd s.tmps) args ats) fun as => @XC q (m + 1) dst (q.E.opnd s.tmps g) as (freezes s.heap as) ⟨(ops, l, K)⟩ s _ ⟨k⟩ := by
  rw [XR, runF]
  have hm : (m + 1 != 0) = true := by simp
  simp only [Env.calm, hm, if_true, bd]
  cases q.E.args (q.E.opnd s.tmps) args ats with
  | none => rfl
  | some as =>
  simp only [Option.bind_some]
  generalize q.E.opnd s.tmps g = v
  cases v with
  | p d => cases d with
    | fn g => cases g with
      | func g =>
        simp only [XC, hm, if_true]
        cases q.E.raw g
        · cases freezes s.heap as with
          | none => rfl
          | some ds =>
            simp only [Bool.false_eq_true, if_false, bd, Option.bind_some]
            cases q.C (.f g) (ds.map .p) [] with
            | none => rfl
            | some r =>
              obtain ⟨r, H⟩ := r
              cases r with
              | ret x =>
                simp only [Option.bind_some, XK, hm, Bool.true_and]
                cases hx : x.flat
                · simp only [Bool.false_eq_true, if_false]
                  cases ha : (AV.leanss as).isEmpty
                  · rfl
                  · have : AV.leanss as = [] := by simpa using ha
                    simp [this, Heap.shut]
                · simp
              | panic x => simp [XK]
        · rfl
      | _ => rfl
    | _ => rfl
  | clo g a b => simp only [XC, hm, if_true]; cases g <;> rfl
  | yld y => simp only [XC, hm, if_true]; rfl
  | _ => rfl
end
end Ev

/- The machine's rules: functions, loops, joins; the set of rules. -/
set_option linter.unusedSimpArgs false
set_option linter.unusedVariables false
namespace Ev
open Go (Value Addr Fn IntKind Oper Op Operand Code Tmp BinOp UnOp Builtin)

/-- A function's end. -/
noncomputable def endF (E : Env) (f base : Nat) (rs : List Go.ResultVar) : Ex → St → Option (Res × Heap) := fun e s => match e with
  | .normal | .ret => bd (E.result s rs) fun vs => E.fin f base vs s.heap
  | .panic v => let r := gc base [v] s.heap; some (.panic (r.1.getD 0 .unk), r.2)
  | _ => none
theorem endF_ret (E : Env) (f base : Nat) (rs : List Go.ResultVar) (s : St) : endF E f base rs .ret s = bd (E.result s rs) fun vs => E.fin f base vs s.heap := rfl
theorem endF_normal (E : Env) (f base : Nat) (rs : List Go.ResultVar) (s : St) : endF E f base rs .normal s = bd (E.result s rs) fun vs => E.fin f base vs s.heap := rfl

theorem call_X (E : Env) (m f : Nat) (args : List AV) (H : Heap) (F : Go.Func) (an : Ann) (c : Code) (n : Nat) (rs : List Go.ResultVar) (hf : E.fn f = some (F, an)) (hb : F.body = some c) (hn : F.ntmps = n) (hr : F.results.toList = rs) (hl : args.length ≤ n) :
    E.call (m + 1) (.f f) args H = @X ⟨E, E.call m, f, n, H.length⟩ ⟨(c, an, [])⟩ ⟨args ++ List.replicate (n - args.length) .unk, H⟩ _ ⟨endF E f H.length rs⟩ := by
  subst hn hr
  have e : max F.ntmps args.length = F.ntmps := Nat.max_eq_left hl
  show E.fnEv (E.call m) (.f f) args H = _
  simp only [Env.fnEv, hf, hb, e, X]
  congr 1

theorem gc_none (H : Heap) (ds : List PD) : gc 0 [tupA (ds.map .p)] H = ([tupA (ds.map .p)], []) := by
  have h1 : ∀ l : List PD, AV.idss (l.map .p) = [] := by
    intro l; induction l with
    | nil => rfl
    | cons d l ih => simp [AV.idss, AV.ids, ih]
  have h2 : ∀ (ρ : Nat → Option Nat) (l : List PD), AV.rens ρ (l.map .p) = l.map .p := by
    intro ρ l; induction l with
    | nil => rfl
    | cons d l ih => simp [AV.rens, AV.ren, ih]
  have h3 : AV.ids (tupA (ds.map .p)) = [] := by
    match ds with
    | [] => rfl
    | [d] => rfl
    | d :: e :: r => show AV.idss ((d :: e :: r).map .p) = []; exact h1 _
  have h4 : ∀ ρ, AV.ren ρ (tupA (ds.map .p)) = tupA (ds.map .p) := by
    intro ρ
    match ds with
    | [] => rfl
    | [d] => rfl
    | d :: e :: r => show AV.tup (AV.rens ρ ((d :: e :: r).map .p)) = _; rw [h2]; rfl
  unfold gc
  split
  · rename_i h
    have : H = [] := by simpa using h
    rw [this]
  · simp only [List.take_zero, List.flatMap_nil, List.nil_append, AV.idss, h3, List.append_nil, reach, AV.rens, h4, Heap.keep, List.map_nil, List.append_nil]

theorem fin_frz (E : Env) (f : Nat) (vs : List AV) (H : Heap) (h : E.frz f = true) : E.fin f 0 vs H = bd (freezes H vs) fun ds => some (.ret (tupA (ds.map .p)), []) := by
  unfold Env.fin
  rw [if_pos h]
  cases freezes H vs with
  | none => rfl
  | some ds => simp only [Option.map_some, gc_none, List.getD_cons_zero, bd, Option.bind_some]
theorem fin_own (E : Env) (f base : Nat) (vs : List AV) (H : Heap) (h : E.frz f = false) : E.fin f base vs H =
    (let p := rewins base vs H; let q := (if base = 0 then enter ⟨p.1, p.2⟩ else ⟨p.1, p.2⟩); let r := gc base [tupA q.vs] q.heap; some (.ret (r.1.getD 0 .unk), r.2)) := by
  unfold Env.fin
  rw [if_neg (by simp [h])]

/-- A round's end. -/
def endL (base : Nat) (live out : List Nat) : Ex → St → Option (Pk ⊕ (Ex × Pk)) := fun e s => match e with
  | .normal => some (.inl (pack base live s))
  | e => some (.inr (packE base out e s))
theorem endL_normal (base : Nat) (live out : List Nat) (s : St) : endL base live out .normal s = some (.inl (pack base live s)) := rfl
theorem endL_exit (base : Nat) (live out : List Nat) (i : Nat) (s : St) : endL base live out (.exit i) s = some (.inr (.exit i, pack base out s)) := rfl
theorem endL_ret (base : Nat) (live out : List Nat) (s : St) : endL base live out .ret s = some (.inr (.ret, pack base out s)) := rfl
/-- Where ways meet. -/
def endJ (base : Nat) (out : List Nat) : Ex → St → Option (Ex × Pk) := fun e s => some (packE base out e s)
theorem endJ_normal (base : Nat) (out : List Nat) (s : St) : endJ base out .normal s = some (.normal, pack base out s) := rfl
theorem endJ_exit (base : Nat) (out : List Nat) (i : Nat) (s : St) : endJ base out (.exit i) s = some (.exit i, pack base out s) := rfl
theorem endJ_ret (base : Nat) (out : List Nat) (s : St) : endJ base out .ret s = some (.ret, pack base out s) := rfl

section
variable {R : Type} (q : Cf) (k : Ex → St → Option R) (K : List Fr) (s : St)

theorem X_loop (a : Code) (live out : List Nat) (x : Ann) : @X q ⟨(.loop a, .l live out x, K)⟩ s R ⟨k⟩ =
    bd (@lpI _ _ ⟨fun p => @X q ⟨(a, x, [])⟩ (unpack q.n live p) _ ⟨endL q.base live out⟩⟩ (enterN q.base (pack q.base live s))) fun r => @app q ⟨K⟩ r.1 (unpack q.n out r.2) R ⟨k⟩ := by
  simp only [X, app, lpI, Env.code, bd]
  congr 1
theorem X_join (a b : Code) (out : List Nat) (x y : Ann) : @X q ⟨(.seq a b, .j out x y, K)⟩ s R ⟨k⟩ =
    jx (@X q ⟨(a, x, [])⟩ s _ ⟨endJ q.base out⟩) fun r => @app q ⟨.seq b y :: K⟩ r.1 (unpack q.n out r.2) R ⟨k⟩ := by
  simp only [X, app, Env.code, jx]
  congr 1
end

theorem bd_map {A B R : Type} {x : Option A} {m : Option B} {enc : B → A} {f : A → Option R} {g : B → Option R} (h : x = m.map enc) (hk : ∀ r, f (enc r) = g r) : @bdI A R x ⟨f⟩ = @bdI B R m ⟨g⟩ := by
  rw [h]
  cases m with
  | none => rfl
  | some b => exact hk b
theorem bd_same {A R : Type} {x : Option A} {f g : A → Option R} (hk : ∀ r, f r = g r) : @bdI A R x ⟨f⟩ = @bdI A R x ⟨g⟩ := by
  cases x with
  | none => rfl
  | some b => exact hk b
theorem br_split {R : Type} {t : Bool} {x y x' y' : Option R} (h1 : t = true → x = x') (h2 : t = false → y = y') : @brI R t ⟨x⟩ ⟨y⟩ = @brI R t ⟨x'⟩ ⟨y'⟩ := by
  cases t
  · exact h2 rfl
  · exact h1 rfl

theorem iter_map {S σ R ρ : Type} {step : S → Option (S ⊕ R)} {sstep : σ → Option (σ ⊕ ρ)} {enc : σ → S} {encR : ρ → R} (h : ∀ x, step (enc x) = (sstep x).map (Sum.map enc encR)) :
    ∀ (n : Nat) (x : σ), iter step n (enc x) = (iter sstep n x).map encR
  | 0, x => rfl
  | n + 1, x => by
    simp only [iter, h x]
    cases sstep x with
    | none => rfl
    | some r => cases r with
      | inl y => exact iter_map h n y
      | inr r => rfl

theorem loopD_some {S R : Type} {step : S → Option (S ⊕ R)} {s : S} {r : R} : loopD step s = some r ↔ ∃ n, iter step n s = some r := by
  constructor
  · intro h
    unfold loopD at h
    split at h
    · rename_i hx
      cases h
      exact hx.choose_spec
    · cases h
  · rintro ⟨n, h⟩; exact loopD_of h

theorem loopD_map {S σ R ρ : Type} {step : S → Option (S ⊕ R)} {sstep : σ → Option (σ ⊕ ρ)} {enc : σ → S} {encR : ρ → R} (h : ∀ x, step (enc x) = (sstep x).map (Sum.map enc encR)) (x : σ) :
    loopD step (enc x) = (loopD sstep x).map encR := by
  cases hr : loopD sstep x with
  | some r =>
    obtain ⟨n, hn⟩ := loopD_some.1 hr
    exact loopD_of (n := n) (by rw [iter_map h, hn]; rfl)
  | none =>
    cases hs : loopD step (enc x) with
    | none => rfl
    | some r =>
      obtain ⟨n, hn⟩ := loopD_some.1 hs
      rw [iter_map h] at hn
      simp only [Option.map_eq_some_iff] at hn
      obtain ⟨a, ha, _⟩ := hn
      rw [loopD_of ha] at hr
      cases hr

/-- A loop. -/
theorem loop_eq {S σ R ρ Z : Type} {step : S → Option (S ⊕ R)} {s0 : S} {f : R → Option Z} {g : ρ → Option Z} (n : Nat) (enc : σ → S) (encR : ρ → R) (sstep : σ → Option (σ ⊕ ρ)) (x0 : σ)
    (h0 : s0 = enc x0) (h : ∀ x, step (enc x) = (sstep x).map (Sum.map enc encR)) (hk : ∀ r, f (encR r) = g r) : @bdI R Z (@lpI S R ⟨step⟩ s0) ⟨f⟩ = @jnI ρ Z n ⟨loopD sstep x0⟩ ⟨g⟩ := by
  rw [h0]
  exact cl_map n (loopD_map h x0) hk

/-! What is simplified -/

theorem bd_bd {A B R : Type} (x : Option A) (f : A → Option B) (g : B → Option R) : @bdI B R (@bdI A B x ⟨f⟩) ⟨g⟩ = @bdI A R x ⟨fun a => bd (f a) g⟩ := by
  cases x <;> rfl
theorem bd_br {A R : Type} (t : Bool) (x y : Option A) (g : A → Option R) : @bdI A R (@brI A t ⟨x⟩ ⟨y⟩) ⟨g⟩ = @brI R t ⟨bd x g⟩ ⟨bd y g⟩ := by
  cases t <;> rfl
theorem map_bd {A B R : Type} (x : Option A) (f : A → Option B) (g : B → R) : (@bdI A B x ⟨f⟩).map g = @bdI A R x ⟨fun a => (f a).map g⟩ := by
  cases x <;> rfl
theorem map_jn {A B R : Type} (n : Nat) (x : Option A) (f : A → Option B) (g : B → R) : (@jnI A B n ⟨x⟩ ⟨f⟩).map g = @jnI A R n ⟨x⟩ ⟨fun a => (f a).map g⟩ := by
  cases x <;> rfl
theorem bd_jn {A B R : Type} (n : Nat) (x : Option A) (f : A → Option B) (g : B → Option R) : @bdI B R (@jnI A B n ⟨x⟩ ⟨f⟩) ⟨g⟩ = @jnI A R n ⟨x⟩ ⟨fun a => bd (f a) g⟩ := by
  cases x <;> rfl
theorem bd_jx {A B R : Type} (x : Option A) (f : A → Option B) (g : B → Option R) : @bdI B R (@jxI A B ⟨x⟩ ⟨f⟩) ⟨g⟩ = @jxI A R ⟨x⟩ ⟨fun a => bd (f a) g⟩ := by
  cases x <;> rfl
theorem map_ap {A R : Type} (n : Nat) (c : Bool) (x : Option A) (g : A → R) : (@apI A n ⟨c⟩ ⟨x⟩).map g = @apI R n ⟨c⟩ ⟨x.map g⟩ := by
  cases c <;> rfl
theorem bd_ap {A R : Type} (n : Nat) (c : Bool) (x : Option A) (g : A → Option R) : @bdI A R (@apI A n ⟨c⟩ ⟨x⟩) ⟨g⟩ = @apI R n ⟨c⟩ ⟨bd x g⟩ := by
  cases c <;> rfl
theorem map_br {A R : Type} (t : Bool) (x y : Option A) (g : A → R) : (@brI A t ⟨x⟩ ⟨y⟩).map g = @brI R t ⟨x.map g⟩ ⟨y.map g⟩ := by
  cases t <;> rfl

theorem put_some (l : List AV) (H H' : Heap) (d : Nat) (v : AV) : St.put ⟨l, H⟩ (some d) v H' = ⟨l.set d v, H'⟩ := rfl
theorem put_none (l : List AV) (H H' : Heap) (v : AV) : St.put ⟨l, H⟩ none v H' = ⟨l, H'⟩ := rfl
theorem opnd_tmp (E : Env) (l : List AV) (t : Tmp) : E.opnd l (.tmp t) = l.getD t .unk := rfl
theorem opnd_func (E : Env) (l : List AV) (f : Nat) : E.opnd l (.func f) = .p (.fn (.func f)) := rfl
theorem opnd_const (E : Env) (l : List AV) (v : Value) : E.opnd l (.const v) = constAV v := rfl
def globV : Option PD → AV
  | some d => .pp d
  | none => .unk
theorem globV_some (d : PD) : globV (some d) = .pp d := rfl
theorem opnd_global (E : Env) (l : List AV) (g : Nat) : E.opnd l (.global g) = globV (E.glob g) := rfl
theorem const_int (k : IntKind) (n : Int) : constAV (.int k n) = .p (.int k n) := rfl
theorem const_bool (b : Bool) : constAV (.bool b) = .p (.bool b) := rfl
theorem const_str (b : ByteArray) : constAV (.string b) = .p (.str b) := rfl
theorem const_nils : constAV (.slice none 0 0) = .nils 0 := rfl
theorem const_nilp : constAV (.pointer none) = .nilp := rfl
theorem const_nilm : constAV (.map none) = .nilm := rfl
theorem const_nilf : constAV .nilFunc = .p .nilf := rfl
def nilsOf : Option Ty → Nat → AV
  | some ty, _ => .nils ty.cells
  | none, e => .nils e
theorem fixNil_nils (E : Env) (t e : Nat) : E.fixNil t (.nils e) = nilsOf (E.elem t) e := by unfold Env.fixNil; cases E.elem t <;> rfl
theorem fixNil_p (E : Env) (t : Nat) (d : PD) : E.fixNil t (.p d) = .p d := rfl
theorem fixNil_agg (E : Env) (t : Nat) (a : List Nat) (b : List AV) : E.fixNil t (.agg a b) = .agg a b := rfl
theorem fixNil_ref (E : Env) (t b : Nat) (π : List Stp) : E.fixNil t (.ref b π) = .ref b π := rfl
theorem fixNil_pp (E : Env) (t : Nat) (d : PD) : E.fixNil t (.pp d) = .pp d := rfl
theorem fixNil_own (E : Env) (t a b : Nat) : E.fixNil t (.own a b) = .own a b := rfl
theorem fixNil_win (E : Env) (t a b c d e : Nat) (π : List Stp) (x : Bool) : E.fixNil t (.win a π b c d e x) = .win a π b c d e x := rfl
theorem fixNil_nilp (E : Env) (t : Nat) : E.fixNil t .nilp = .nilp := rfl
theorem fixNil_nilm (E : Env) (t : Nat) : E.fixNil t .nilm = .nilm := rfl
theorem fixNil_anyb (E : Env) (t : Nat) : E.fixNil t .anyb = .anyb := rfl
theorem fixNil_map (E : Env) (t b : Nat) : E.fixNil t (.map b) = .map b := rfl
theorem fixNil_clo (E : Env) (t : Nat) (g : Fn) (a b : List AV) : E.fixNil t (.clo g a b) = .clo g a b := rfl
theorem fixNil_yld (E : Env) (t b : Nat) : E.fixNil t (.yld b) = .yld b := rfl
theorem fixNil_iface (E : Env) (t b : Nat) (v : AV) : E.fixNil t (.iface b v) = .iface b v := rfl
theorem fixNil_tup (E : Env) (t : Nat) (v : List AV) : E.fixNil t (.tup v) = .tup v := rfl
theorem fixNil_unk (E : Env) (t : Nat) : E.fixNil t .unk = .unk := rfl

def elemOf (E : Env) : Option Ty → Option Ty
  | some ⟨.slice e, _, _, _⟩ => E.ty e
  | _ => none
theorem elem_eq (E : Env) (t : Nat) : E.elem t = elemOf E (E.ty t) := by unfold Env.elem elemOf; rfl

theorem getD_zero {α : Type} (a : α) (l : List α) (d : α) : (a :: l).getD 0 d = a := rfl
theorem getD_succ {α : Type} (a : α) (l : List α) (n : Nat) (d : α) : (a :: l).getD (n + 1) d = l.getD n d := rfl

attribute [go_sem] app_nil app_seq app_seq_exit app_seq_ret app_blk app_blk_ret app_blk_exit X_skip X_exit X_ret X_seq X_seqo X_block X_blocko X_cond X_condo XT_bool XT_any X_region XF_nil XF_cons XF_guard gdst_zero gdst_succ XGt_some XG_true XG_false XG_und
  XR_makeInterface XR_panic XR_move XR_assign XR_pick XR_alloc XR_box XR_build XR_buildSlice XR_load XR_nilCheck XR_bin XR_un XR_convert XR_makeFunc XR_makeMap XR_makeMap2 XR_makeSlice XR_slice XR_fieldAddr XR_field XR_indexAddr XR_index XR_lookup XR_extract
  XR_store XR_mapUpdate XR_append XR_copy XR_len XK2_ret XR_call0 XR_callS pickV_bool br_true br_false bd_some bd_none
  endF_ret endF_normal fin_frz endL_normal endL_exit endL_ret endJ_normal endJ_exit endJ_ret X_loop X_join
  put_some put_none opnd_tmp opnd_func opnd_const opnd_global globV_some const_int const_bool const_str const_nils const_nilp const_nilm const_nilf
  fixNil_nils fixNil_p fixNil_agg fixNil_ref fixNil_pp fixNil_own fixNil_win fixNil_nilp fixNil_nilm fixNil_anyb fixNil_map fixNil_clo fixNil_yld fixNil_iface fixNil_tup fixNil_unk elem_eq elemOf nilsOf
  getD_zero getD_succ List.set_cons_zero List.set_cons_succ List.length_cons List.length_nil List.map_cons List.map_nil List.cons_append List.nil_append List.append_assoc
  List.replicate_succ List.replicate_zero List.zip_cons_cons List.zip_nil_left List.zip_nil_right List.foldl_cons List.foldl_nil
  List.getElem?_cons_zero List.getElem?_cons_succ List.getElem?_nil Option.bind_some Option.bind_none Option.map_some Option.map_none Option.isSome_some
  if_true if_false Bool.false_eq_true beq_self_eq_true Bool.not_true Bool.not_false List.getElem?_toArray
attribute [go_sem ↓] br_I bd_I jx_I jn_I ap_I lp_I
end Ev

/- The machine's rules: values; what is plain. -/
set_option linter.unusedSimpArgs false
set_option linter.unusedVariables false
namespace Ev
open Go (Value Addr Fn IntKind Oper Op Operand Code Tmp BinOp UnOp Builtin)

def gi {α : Type} (l : List α) (i : Int) : Option α := if 0 ≤ i then l[i.toNat]? else none
def bi (s : ByteArray) (i : Int) : Option Int := if 0 ≤ i then (s.data[i.toNat]?).map fun c => (c.toNat : Int) else none
def shlI (k : IntKind) (a b : Int) : Int := k.wrap (a * 2 ^ (min b.toNat k.bits))
def shrI (k : IntKind) (a b : Int) : Int := a.fdiv (2 ^ (min b.toNat k.bits))
def andI (k : IntKind) (x y : Int) : Int := k.wrap (BitVec.ofInt k.bits x &&& BitVec.ofInt k.bits y).toNat
def orI (k : IntKind) (x y : Int) : Int := k.wrap (BitVec.ofInt k.bits x ||| BitVec.ofInt k.bits y).toNat
def xorI (k : IntKind) (x y : Int) : Int := k.wrap (BitVec.ofInt k.bits x ^^^ BitVec.ofInt k.bits y).toNat
def andNotI (k : IntKind) (x y : Int) : Int := k.wrap (BitVec.ofInt k.bits x &&& ~~~ BitVec.ofInt k.bits y).toNat
def mget {K V : Type} (eq : K → K → Bool) (l : List (K × V)) (k : K) : Option V := (l.find? fun y => eq k y.1).map (·.2)
def mput {K V : Type} (eq : K → K → Bool) : List (K × V) → K → V → List (K × V)
  | [], k, v => [(k, v)]
  | y :: r, k, v => if eq k y.1 then (k, v) :: r else y :: mput eq r k v

section
variable (E : Env) (t : Nat)
theorem bin_int (op : BinOp) (k k' : IntKind) (a b : Int) : E.binA op t (.p (.int k a)) (.p (.int k' b)) = binI op k a k' b := rfl
theorem binI_add (k : IntKind) (a b : Int) : binI .add k a k b = some (.p (.int k (k.wrap (a + b)))) := by simp [binI]
theorem binI_sub (k : IntKind) (a b : Int) : binI .sub k a k b = some (.p (.int k (k.wrap (a - b)))) := by simp [binI]
theorem binI_mul (k : IntKind) (a b : Int) : binI .mul k a k b = some (.p (.int k (k.wrap (a * b)))) := by simp [binI]
theorem binI_quo (k : IntKind) (a b : Int) : binI .quo k a k b = br (b == 0) none (some (.p (.int k (k.wrap (a.tdiv b))))) := by
  simp only [binI, if_true, br, beq_iff_eq]
theorem binI_rem (k : IntKind) (a b : Int) : binI .rem k a k b = br (b == 0) none (some (.p (.int k (a.tmod b)))) := by
  simp only [binI, if_true, br, beq_iff_eq]
theorem binI_eql (k : IntKind) (a b : Int) : binI .eql k a k b = some (.p (.bool (a == b))) := by simp [binI]
theorem binI_neq (k : IntKind) (a b : Int) : binI .neq k a k b = some (.p (.bool (a != b))) := by simp [binI]
theorem binI_lss (k : IntKind) (a b : Int) : binI .lss k a k b = some (.p (.bool (decide (a < b)))) := by simp [binI]
theorem binI_leq (k : IntKind) (a b : Int) : binI .leq k a k b = some (.p (.bool (decide (a ≤ b)))) := by simp [binI]
theorem binI_gtr (k : IntKind) (a b : Int) : binI .gtr k a k b = some (.p (.bool (decide (a > b)))) := by simp only [binI, if_true]
theorem binI_geq (k : IntKind) (a b : Int) : binI .geq k a k b = some (.p (.bool (decide (a ≥ b)))) := by simp only [binI, if_true]
theorem binI_shl (k k' : IntKind) (a b : Int) : binI .shl k a k' b = br (decide (b < 0)) none (some (.p (.int k (shlI k a b)))) := by
  simp only [binI, br, decide_eq_true_eq, shlI]
theorem binI_shr (k k' : IntKind) (a b : Int) : binI .shr k a k' b = br (decide (b < 0)) none (some (.p (.int k (shrI k a b)))) := by
  simp only [binI, br, decide_eq_true_eq, shrI]
theorem binI_and (k : IntKind) (a b : Int) : binI .and k a k b = some (.p (.int k (andI k a b))) := by simp [binI, bitsOp, andI]
theorem binI_or (k : IntKind) (a b : Int) : binI .or k a k b = some (.p (.int k (orI k a b))) := by simp [binI, bitsOp, orI]
theorem binI_xor (k : IntKind) (a b : Int) : binI .xor k a k b = some (.p (.int k (xorI k a b))) := by simp [binI, bitsOp, xorI]
theorem binI_andNot (k : IntKind) (a b : Int) : binI .andNot k a k b = some (.p (.int k (andNotI k a b))) := by simp [binI, bitsOp, andNotI]
theorem un_not (b : Bool) : unA .not (.p (.bool b)) = some (.p (.bool (!b))) := rfl
theorem un_neg (k : IntKind) (n : Int) : unA .neg (.p (.int k n)) = some (.p (.int k (k.wrap (0 - n)))) := rfl
theorem br_not {R : Type} (b : Bool) (x y : Option R) : @brI R (!b) ⟨x⟩ ⟨y⟩ = @brI R b ⟨y⟩ ⟨x⟩ := by cases b <;> rfl
theorem isNilC_tmp (x : Tmp) : isNilC (.tmp x) = false := rfl
theorem isNilC_int (k : IntKind) (n : Int) : isNilC (.const (.int k n)) = false := rfl
theorem isNilC_bool (b : Bool) : isNilC (.const (.bool b)) = false := rfl
theorem isNilC_str (b : ByteArray) : isNilC (.const (.string b)) = false := rfl
theorem isNilC_nil : isNilC (.const (.slice none 0 0)) = true := rfl

theorem result_nil (s : St) : E.result s [] = some [] := rfl
theorem result_tmp (s : St) (t : Tmp) (r : List Go.ResultVar) : E.result s (.tmp t :: r) = bd (E.result s r) fun vs => some (s.tmps.getD t .unk :: vs) := by
  rw [Env.result, bd]; cases E.result s r <;> rfl
theorem result_cell (s : St) (a t : Nat) (r : List Go.ResultVar) : E.result s (.cell a t :: r) = bd (E.loadA s.heap t (s.tmps.getD a .unk)) fun v => bd (E.result s r) fun vs => some (v :: vs) := by
  rw [Env.result, bd]; congr 1; funext v; rw [bd]; cases E.result s r <;> rfl

theorem freezes_nil (H : Heap) : freezes H [] = some [] := rfl
theorem freezes_cons (H : Heap) (v : AV) (l : List AV) : freezes H (v :: l) = bd (freeze H v) fun d => bd (freezes H l) fun ds => some (d :: ds) := by
  rw [freezes, bd]; congr 1; funext v; rw [bd]; cases freezes H l <;> rfl
theorem freeze_p (H : Heap) (d : PD) : freeze H (.p d) = some d := rfl
theorem freeze_agg (H : Heap) (sz : List Nat) (fs : List AV) : freeze H (.agg sz fs) = bd (freezes H fs) fun ds => some (.agg sz ds) := by
  rw [freeze, bd]; cases freezes H fs <;> rfl
def ownPD : Option Obj → Nat → Option PD
  | some (.row e xs _), lo => some (.sl e (xs.drop lo))
  | _, _ => none
theorem freeze_own (H : Heap) (b lo : Nat) : freeze H (.own b lo) = ownPD H[b]? lo := by rw [freeze, ownPD.eq_def]; cases H[b]? with
  | none => rfl
  | some o => cases o <;> rfl
theorem ownPD_row (e : Nat) (xs : List PD) (s : Bool) : ownPD (some (.row e xs s)) 0 = some (.sl e xs) := rfl
theorem freeze_nils (H : Heap) (e : Nat) : freeze H (.nils e) = some (.sl e []) := rfl

theorem tupA_one (v : AV) : tupA [v] = v := rfl
theorem tupA_two (v w : AV) (l : List AV) : tupA (v :: w :: l) = .tup (v :: w :: l) := rfl
theorem tupA_nil : tupA [] = .tup [] := rfl

attribute [go_sem] bin_int binI_add binI_sub binI_mul binI_quo binI_rem binI_eql binI_neq binI_lss binI_leq binI_gtr binI_geq binI_shl binI_shr binI_and binI_or binI_xor binI_andNot un_not un_neg br_not isNilC_tmp isNilC_int isNilC_bool isNilC_str isNilC_nil
  result_nil result_tmp result_cell freezes_nil freezes_cons freeze_p freeze_agg freeze_own ownPD_row freeze_nils tupA_one tupA_two tupA_nil Bool.not_not
  map_br map_bd map_jn map_ap bd_br bd_bd bd_jn bd_jx bd_ap
end
end Ev
