/- The structures of the program, and how they lie in memory (definitions alone). -/
import Derived.Test.YtfcldaojfbbaoaaDoorEvJ
set_option linter.unusedVariables false
set_option linter.unusedSimpArgs false
set_option linter.unnecessarySimpa false
open Go Ev
set_option linter.unusedSimpArgs false
set_option maxRecDepth 100000
set_option linter.unusedVariables false
namespace Sp
noncomputable section
structure Leaf where
  Index : Int
  Chains : List (List Int)
  Path : List (List Int)
def V_Leaf (x : Leaf) : Prop := (Go.Lit.int .i64 x.Index).wf = true ∧ (x.Chains.length ≤ Go.maxLen ∧ ∀ y ∈ x.Chains, (y.length = 32 ∧ ∀ i ∈ y, (Go.Lit.int .u8 i).wf = true)) ∧ (x.Path.length ≤ Go.maxLen ∧ ∀ y ∈ x.Path, (y.length = 32 ∧ ∀ i ∈ y, (Go.Lit.int .u8 i).wf = true))
def e_Leaf (x : Leaf) : PD := .agg [1, 1, 1] [(.int .i64 x.Index), (.sl 32 (List.map (PD.iarr .u8 32) x.Chains)), (.sl 32 (List.map (PD.iarr .u8 32) x.Path))]
@[go_sem] theorem e_Leaf_cells (x : Leaf) : (e_Leaf x).cells = 3 := rfl
@[go_sem] theorem e_Leaf_agg (x : Leaf) : (e_Leaf x).isAgg = true := rfl
@[go_sem] theorem e_Leaf_flat (x : Leaf) : (e_Leaf x).flat = false := rfl
@[go_sem] theorem e_Leaf_get0 (x : Leaf) (π : List Stp) : AV.get (.p (e_Leaf x)) (.fld 0 0 :: π) = AV.get (.p (.int .i64 x.Index)) π := rfl
@[go_sem] theorem e_Leaf_get1 (x : Leaf) (π : List Stp) : AV.get (.p (e_Leaf x)) (.fld 1 1 :: π) = AV.get (.p (.sl 32 (List.map (PD.iarr .u8 32) x.Chains))) π := rfl
@[go_sem] theorem e_Leaf_get2 (x : Leaf) (π : List Stp) : AV.get (.p (e_Leaf x)) (.fld 2 2 :: π) = AV.get (.p (.sl 32 (List.map (PD.iarr .u8 32) x.Path))) π := rfl
@[go_sem] theorem e_Leaf_set (n : Nat) (x : Leaf) (i o : Nat) (π : List Stp) (v : AV) : AV.set n (.p (e_Leaf x)) (.fld i o :: π) v = AV.set n (.p (.agg [1, 1, 1] [(.int .i64 x.Index), (.sl 32 (List.map (PD.iarr .u8 32) x.Chains)), (.sl 32 (List.map (PD.iarr .u8 32) x.Path))])) (.fld i o :: π) v := rfl
structure Copy where
  Issuer : Int
  Round : Int
  Schema : Int
  Place : Int
  Holder : List Int
  Values : List Int
  Links : List (List Int)
  Claims : List Leaf
def V_Copy (x : Copy) : Prop := (Go.Lit.int .i64 x.Issuer).wf = true ∧ (Go.Lit.int .i64 x.Round).wf = true ∧ (Go.Lit.int .i64 x.Schema).wf = true ∧ (Go.Lit.int .i64 x.Place).wf = true ∧ (x.Holder.length = 32 ∧ ∀ i ∈ x.Holder, (Go.Lit.int .u8 i).wf = true) ∧ (x.Values.length ≤ Go.maxLen ∧ ∀ y ∈ x.Values, (Go.Lit.int .i64 y).wf = true) ∧ (x.Links.length ≤ Go.maxLen ∧ ∀ y ∈ x.Links, (y.length = 32 ∧ ∀ i ∈ y, (Go.Lit.int .u8 i).wf = true)) ∧ (x.Claims.length ≤ Go.maxLen ∧ ∀ y ∈ x.Claims, V_Leaf y)
def e_Copy (x : Copy) : PD := .agg [1, 1, 1, 1, 32, 1, 1, 1] [(.int .i64 x.Issuer), (.int .i64 x.Round), (.int .i64 x.Schema), (.int .i64 x.Place), (.iarr .u8 32 x.Holder), (.sl 1 (List.map (PD.int .i64) x.Values)), (.sl 32 (List.map (PD.iarr .u8 32) x.Links)), (.sl 3 (List.map e_Leaf x.Claims))]
@[go_sem] theorem e_Copy_cells (x : Copy) : (e_Copy x).cells = 39 := rfl
@[go_sem] theorem e_Copy_agg (x : Copy) : (e_Copy x).isAgg = true := rfl
@[go_sem] theorem e_Copy_flat (x : Copy) : (e_Copy x).flat = false := rfl
@[go_sem] theorem e_Copy_get0 (x : Copy) (π : List Stp) : AV.get (.p (e_Copy x)) (.fld 0 0 :: π) = AV.get (.p (.int .i64 x.Issuer)) π := rfl
@[go_sem] theorem e_Copy_get1 (x : Copy) (π : List Stp) : AV.get (.p (e_Copy x)) (.fld 1 1 :: π) = AV.get (.p (.int .i64 x.Round)) π := rfl
@[go_sem] theorem e_Copy_get2 (x : Copy) (π : List Stp) : AV.get (.p (e_Copy x)) (.fld 2 2 :: π) = AV.get (.p (.int .i64 x.Schema)) π := rfl
@[go_sem] theorem e_Copy_get3 (x : Copy) (π : List Stp) : AV.get (.p (e_Copy x)) (.fld 3 3 :: π) = AV.get (.p (.int .i64 x.Place)) π := rfl
@[go_sem] theorem e_Copy_get4 (x : Copy) (π : List Stp) : AV.get (.p (e_Copy x)) (.fld 4 4 :: π) = AV.get (.p (.iarr .u8 32 x.Holder)) π := rfl
@[go_sem] theorem e_Copy_get5 (x : Copy) (π : List Stp) : AV.get (.p (e_Copy x)) (.fld 5 36 :: π) = AV.get (.p (.sl 1 (List.map (PD.int .i64) x.Values))) π := rfl
@[go_sem] theorem e_Copy_get6 (x : Copy) (π : List Stp) : AV.get (.p (e_Copy x)) (.fld 6 37 :: π) = AV.get (.p (.sl 32 (List.map (PD.iarr .u8 32) x.Links))) π := rfl
@[go_sem] theorem e_Copy_get7 (x : Copy) (π : List Stp) : AV.get (.p (e_Copy x)) (.fld 7 38 :: π) = AV.get (.p (.sl 3 (List.map e_Leaf x.Claims))) π := rfl
@[go_sem] theorem e_Copy_set (n : Nat) (x : Copy) (i o : Nat) (π : List Stp) (v : AV) : AV.set n (.p (e_Copy x)) (.fld i o :: π) v = AV.set n (.p (.agg [1, 1, 1, 1, 32, 1, 1, 1] [(.int .i64 x.Issuer), (.int .i64 x.Round), (.int .i64 x.Schema), (.int .i64 x.Place), (.iarr .u8 32 x.Holder), (.sl 1 (List.map (PD.int .i64) x.Values)), (.sl 32 (List.map (PD.iarr .u8 32) x.Links)), (.sl 3 (List.map e_Leaf x.Claims))])) (.fld i o :: π) v := rfl
structure Claims where
  Schema : Int
  Fields : List Int
  Values : List Int
def V_Claims (x : Claims) : Prop := (Go.Lit.int .i64 x.Schema).wf = true ∧ (x.Fields.length ≤ Go.maxLen ∧ ∀ y ∈ x.Fields, (Go.Lit.int .i64 y).wf = true) ∧ (x.Values.length ≤ Go.maxLen ∧ ∀ y ∈ x.Values, (Go.Lit.int .i64 y).wf = true)
def e_Claims (x : Claims) : PD := .agg [1, 1, 1] [(.int .i64 x.Schema), (.sl 1 (List.map (PD.int .i64) x.Fields)), (.sl 1 (List.map (PD.int .i64) x.Values))]
@[go_sem] theorem e_Claims_cells (x : Claims) : (e_Claims x).cells = 3 := rfl
@[go_sem] theorem e_Claims_agg (x : Claims) : (e_Claims x).isAgg = true := rfl
@[go_sem] theorem e_Claims_flat (x : Claims) : (e_Claims x).flat = false := rfl
@[go_sem] theorem e_Claims_get0 (x : Claims) (π : List Stp) : AV.get (.p (e_Claims x)) (.fld 0 0 :: π) = AV.get (.p (.int .i64 x.Schema)) π := rfl
@[go_sem] theorem e_Claims_get1 (x : Claims) (π : List Stp) : AV.get (.p (e_Claims x)) (.fld 1 1 :: π) = AV.get (.p (.sl 1 (List.map (PD.int .i64) x.Fields))) π := rfl
@[go_sem] theorem e_Claims_get2 (x : Claims) (π : List Stp) : AV.get (.p (e_Claims x)) (.fld 2 2 :: π) = AV.get (.p (.sl 1 (List.map (PD.int .i64) x.Values))) π := rfl
@[go_sem] theorem e_Claims_set (n : Nat) (x : Claims) (i o : Nat) (π : List Stp) (v : AV) : AV.set n (.p (e_Claims x)) (.fld i o :: π) v = AV.set n (.p (.agg [1, 1, 1] [(.int .i64 x.Schema), (.sl 1 (List.map (PD.int .i64) x.Fields)), (.sl 1 (List.map (PD.int .i64) x.Values))])) (.fld i o :: π) v := rfl
structure Secret where
  Seed : List Int
  Links : List (List Int)
def V_Secret (x : Secret) : Prop := (x.Seed.length = 32 ∧ ∀ i ∈ x.Seed, (Go.Lit.int .u8 i).wf = true) ∧ (x.Links.length ≤ Go.maxLen ∧ ∀ y ∈ x.Links, (y.length = 32 ∧ ∀ i ∈ y, (Go.Lit.int .u8 i).wf = true))
def e_Secret (x : Secret) : PD := .agg [32, 1] [(.iarr .u8 32 x.Seed), (.sl 32 (List.map (PD.iarr .u8 32) x.Links))]
@[go_sem] theorem e_Secret_cells (x : Secret) : (e_Secret x).cells = 33 := rfl
@[go_sem] theorem e_Secret_agg (x : Secret) : (e_Secret x).isAgg = true := rfl
@[go_sem] theorem e_Secret_flat (x : Secret) : (e_Secret x).flat = false := rfl
@[go_sem] theorem e_Secret_get0 (x : Secret) (π : List Stp) : AV.get (.p (e_Secret x)) (.fld 0 0 :: π) = AV.get (.p (.iarr .u8 32 x.Seed)) π := rfl
@[go_sem] theorem e_Secret_get1 (x : Secret) (π : List Stp) : AV.get (.p (e_Secret x)) (.fld 1 32 :: π) = AV.get (.p (.sl 32 (List.map (PD.iarr .u8 32) x.Links))) π := rfl
@[go_sem] theorem e_Secret_set (n : Nat) (x : Secret) (i o : Nat) (π : List Stp) (v : AV) : AV.set n (.p (e_Secret x)) (.fld i o :: π) v = AV.set n (.p (.agg [32, 1] [(.iarr .u8 32 x.Seed), (.sl 32 (List.map (PD.iarr .u8 32) x.Links))])) (.fld i o :: π) v := rfl
structure Held where
  Copy : Copy
  Secret : Secret
  Device : Int
  State : Int
def V_Held (x : Held) : Prop := V_Copy x.Copy ∧ V_Secret x.Secret ∧ (Go.Lit.int .i64 x.Device).wf = true ∧ (Go.Lit.int .i64 x.State).wf = true
def e_Held (x : Held) : PD := .agg [39, 33, 1, 1] [(e_Copy x.Copy), (e_Secret x.Secret), (.int .i64 x.Device), (.int .i64 x.State)]
@[go_sem] theorem e_Held_cells (x : Held) : (e_Held x).cells = 74 := rfl
@[go_sem] theorem e_Held_agg (x : Held) : (e_Held x).isAgg = true := rfl
@[go_sem] theorem e_Held_flat (x : Held) : (e_Held x).flat = false := rfl
@[go_sem] theorem e_Held_get0 (x : Held) (π : List Stp) : AV.get (.p (e_Held x)) (.fld 0 0 :: π) = AV.get (.p (e_Copy x.Copy)) π := rfl
@[go_sem] theorem e_Held_get1 (x : Held) (π : List Stp) : AV.get (.p (e_Held x)) (.fld 1 39 :: π) = AV.get (.p (e_Secret x.Secret)) π := rfl
@[go_sem] theorem e_Held_get2 (x : Held) (π : List Stp) : AV.get (.p (e_Held x)) (.fld 2 72 :: π) = AV.get (.p (.int .i64 x.Device)) π := rfl
@[go_sem] theorem e_Held_get3 (x : Held) (π : List Stp) : AV.get (.p (e_Held x)) (.fld 3 73 :: π) = AV.get (.p (.int .i64 x.State)) π := rfl
@[go_sem] theorem e_Held_set (n : Nat) (x : Held) (i o : Nat) (π : List Stp) (v : AV) : AV.set n (.p (e_Held x)) (.fld i o :: π) v = AV.set n (.p (.agg [39, 33, 1, 1] [(e_Copy x.Copy), (e_Secret x.Secret), (.int .i64 x.Device), (.int .i64 x.State)])) (.fld i o :: π) v := rfl
structure Wallet where
  Person : Int
  Link : Int
  Held : List Held
def V_Wallet (x : Wallet) : Prop := (Go.Lit.int .i64 x.Person).wf = true ∧ (Go.Lit.int .i64 x.Link).wf = true ∧ (x.Held.length ≤ Go.maxLen ∧ ∀ y ∈ x.Held, V_Held y)
def e_Wallet (x : Wallet) : PD := .agg [1, 1, 1] [(.int .i64 x.Person), (.int .i64 x.Link), (.sl 74 (List.map e_Held x.Held))]
@[go_sem] theorem e_Wallet_cells (x : Wallet) : (e_Wallet x).cells = 3 := rfl
@[go_sem] theorem e_Wallet_agg (x : Wallet) : (e_Wallet x).isAgg = true := rfl
@[go_sem] theorem e_Wallet_flat (x : Wallet) : (e_Wallet x).flat = false := rfl
@[go_sem] theorem e_Wallet_get0 (x : Wallet) (π : List Stp) : AV.get (.p (e_Wallet x)) (.fld 0 0 :: π) = AV.get (.p (.int .i64 x.Person)) π := rfl
@[go_sem] theorem e_Wallet_get1 (x : Wallet) (π : List Stp) : AV.get (.p (e_Wallet x)) (.fld 1 1 :: π) = AV.get (.p (.int .i64 x.Link)) π := rfl
@[go_sem] theorem e_Wallet_get2 (x : Wallet) (π : List Stp) : AV.get (.p (e_Wallet x)) (.fld 2 2 :: π) = AV.get (.p (.sl 74 (List.map e_Held x.Held))) π := rfl
@[go_sem] theorem e_Wallet_set (n : Nat) (x : Wallet) (i o : Nat) (π : List Stp) (v : AV) : AV.set n (.p (e_Wallet x)) (.fld i o :: π) v = AV.set n (.p (.agg [1, 1, 1] [(.int .i64 x.Person), (.int .i64 x.Link), (.sl 74 (List.map e_Held x.Held))])) (.fld i o :: π) v := rfl
structure Place where
  Round : Int
  Place : Int
def V_Place (x : Place) : Prop := (Go.Lit.int .i64 x.Round).wf = true ∧ (Go.Lit.int .i64 x.Place).wf = true
def e_Place (x : Place) : PD := .agg [1, 1] [(.int .i64 x.Round), (.int .i64 x.Place)]
@[go_sem] theorem e_Place_cells (x : Place) : (e_Place x).cells = 2 := rfl
@[go_sem] theorem e_Place_agg (x : Place) : (e_Place x).isAgg = true := rfl
@[go_sem] theorem e_Place_flat (x : Place) : (e_Place x).flat = true := rfl
def b_Place (x y : Place) : Bool := (x.Round == y.Round) && (x.Place == y.Place)
theorem eqv_Place (x y : Place) : PD.eqv (e_Place x) (e_Place y) = some (b_Place x y) := by
  simp [e_Place, b_Place, PD.eqv, PD.eqv.eqvs, Bool.and_assoc]
theorem eqvS_Place (x : Place) : (PD.eqv (e_Place x) (e_Place x)).isSome = true := by rw [eqv_Place]; rfl
@[go_sem] theorem e_Place_get0 (x : Place) (π : List Stp) : AV.get (.p (e_Place x)) (.fld 0 0 :: π) = AV.get (.p (.int .i64 x.Round)) π := rfl
@[go_sem] theorem e_Place_get1 (x : Place) (π : List Stp) : AV.get (.p (e_Place x)) (.fld 1 1 :: π) = AV.get (.p (.int .i64 x.Place)) π := rfl
@[go_sem] theorem e_Place_set (n : Nat) (x : Place) (i o : Nat) (π : List Stp) (v : AV) : AV.set n (.p (e_Place x)) (.fld i o :: π) v = AV.set n (.p (.agg [1, 1] [(.int .i64 x.Round), (.int .i64 x.Place)])) (.fld i o :: π) v := rfl
structure runtime_errorAddressString where
  msg : ByteArray
  addr : Int
def V_runtime_errorAddressString (x : runtime_errorAddressString) : Prop := x.msg.size ≤ Go.maxLen ∧ (Go.Lit.int .u64 x.addr).wf = true
def e_runtime_errorAddressString (x : runtime_errorAddressString) : PD := .agg [1, 1] [(.str x.msg), (.int .u64 x.addr)]
@[go_sem] theorem e_runtime_errorAddressString_cells (x : runtime_errorAddressString) : (e_runtime_errorAddressString x).cells = 2 := rfl
@[go_sem] theorem e_runtime_errorAddressString_agg (x : runtime_errorAddressString) : (e_runtime_errorAddressString x).isAgg = true := rfl
@[go_sem] theorem e_runtime_errorAddressString_flat (x : runtime_errorAddressString) : (e_runtime_errorAddressString x).flat = true := rfl
def b_runtime_errorAddressString (x y : runtime_errorAddressString) : Bool := (x.msg == y.msg) && (x.addr == y.addr)
theorem eqv_runtime_errorAddressString (x y : runtime_errorAddressString) : PD.eqv (e_runtime_errorAddressString x) (e_runtime_errorAddressString y) = some (b_runtime_errorAddressString x y) := by
  simp [e_runtime_errorAddressString, b_runtime_errorAddressString, PD.eqv, PD.eqv.eqvs, Bool.and_assoc]
theorem eqvS_runtime_errorAddressString (x : runtime_errorAddressString) : (PD.eqv (e_runtime_errorAddressString x) (e_runtime_errorAddressString x)).isSome = true := by rw [eqv_runtime_errorAddressString]; rfl
@[go_sem] theorem e_runtime_errorAddressString_get0 (x : runtime_errorAddressString) (π : List Stp) : AV.get (.p (e_runtime_errorAddressString x)) (.fld 0 0 :: π) = AV.get (.p (.str x.msg)) π := rfl
@[go_sem] theorem e_runtime_errorAddressString_get1 (x : runtime_errorAddressString) (π : List Stp) : AV.get (.p (e_runtime_errorAddressString x)) (.fld 1 1 :: π) = AV.get (.p (.int .u64 x.addr)) π := rfl
@[go_sem] theorem e_runtime_errorAddressString_set (n : Nat) (x : runtime_errorAddressString) (i o : Nat) (π : List Stp) (v : AV) : AV.set n (.p (e_runtime_errorAddressString x)) (.fld i o :: π) v = AV.set n (.p (.agg [1, 1] [(.str x.msg), (.int .u64 x.addr)])) (.fld i o :: π) v := rfl
structure runtime_boundsError where
  x : Int
  y : Int
  signed : Bool
  code : Int
def V_runtime_boundsError (x : runtime_boundsError) : Prop := (Go.Lit.int .i64 x.x).wf = true ∧ (Go.Lit.int .i64 x.y).wf = true ∧ True ∧ (Go.Lit.int .u8 x.code).wf = true
def e_runtime_boundsError (x : runtime_boundsError) : PD := .agg [1, 1, 1, 1] [(.int .i64 x.x), (.int .i64 x.y), (.bool x.signed), (.int .u8 x.code)]
@[go_sem] theorem e_runtime_boundsError_cells (x : runtime_boundsError) : (e_runtime_boundsError x).cells = 4 := rfl
@[go_sem] theorem e_runtime_boundsError_agg (x : runtime_boundsError) : (e_runtime_boundsError x).isAgg = true := rfl
@[go_sem] theorem e_runtime_boundsError_flat (x : runtime_boundsError) : (e_runtime_boundsError x).flat = true := rfl
def b_runtime_boundsError (x y : runtime_boundsError) : Bool := (x.x == y.x) && (x.y == y.y) && (x.signed == y.signed) && (x.code == y.code)
theorem eqv_runtime_boundsError (x y : runtime_boundsError) : PD.eqv (e_runtime_boundsError x) (e_runtime_boundsError y) = some (b_runtime_boundsError x y) := by
  simp [e_runtime_boundsError, b_runtime_boundsError, PD.eqv, PD.eqv.eqvs, Bool.and_assoc]
theorem eqvS_runtime_boundsError (x : runtime_boundsError) : (PD.eqv (e_runtime_boundsError x) (e_runtime_boundsError x)).isSome = true := by rw [eqv_runtime_boundsError]; rfl
@[go_sem] theorem e_runtime_boundsError_get0 (x : runtime_boundsError) (π : List Stp) : AV.get (.p (e_runtime_boundsError x)) (.fld 0 0 :: π) = AV.get (.p (.int .i64 x.x)) π := rfl
@[go_sem] theorem e_runtime_boundsError_get1 (x : runtime_boundsError) (π : List Stp) : AV.get (.p (e_runtime_boundsError x)) (.fld 1 1 :: π) = AV.get (.p (.int .i64 x.y)) π := rfl
@[go_sem] theorem e_runtime_boundsError_get2 (x : runtime_boundsError) (π : List Stp) : AV.get (.p (e_runtime_boundsError x)) (.fld 2 2 :: π) = AV.get (.p (.bool x.signed)) π := rfl
@[go_sem] theorem e_runtime_boundsError_get3 (x : runtime_boundsError) (π : List Stp) : AV.get (.p (e_runtime_boundsError x)) (.fld 3 3 :: π) = AV.get (.p (.int .u8 x.code)) π := rfl
@[go_sem] theorem e_runtime_boundsError_set (n : Nat) (x : runtime_boundsError) (i o : Nat) (π : List Stp) (v : AV) : AV.set n (.p (e_runtime_boundsError x)) (.fld i o :: π) v = AV.set n (.p (.agg [1, 1, 1, 1] [(.int .i64 x.x), (.int .i64 x.y), (.bool x.signed), (.int .u8 x.code)])) (.fld i o :: π) v := rfl
def G0 : List Int := [1779033703, 3144134277, 1013904242, 2773480762, 1359893119, 2600822924, 528734635, 1541459225]
def G1 : List Int := [1116352408, 1899447441, 3049323471, 3921009573, 961987163, 1508970993, 2453635748, 2870763221, 3624381080, 310598401, 607225278, 1426881987, 1925078388, 2162078206, 2614888103, 3248222580, 3835390401, 4022224774, 264347078, 604807628, 770255983, 1249150122, 1555081692, 1996064986, 2554220882, 2821834349, 2952996808, 3210313671, 3336571891, 3584528711, 113926993, 338241895, 666307205, 773529912, 1294757372, 1396182291, 1695183700, 1986661051, 2177026350, 2456956037, 2730485921, 2820302411, 3259730800, 3345764771, 3516065817, 3600352804, 4094571909, 275423344, 430227734, 506948616, 659060556, 883997877, 958139571, 1322822218, 1537002063, 1747873779, 1955562222, 2024104815, 2227730452, 2361852424, 2428436474, 2756734187, 3204031479, 3329325298]
end
end Sp
