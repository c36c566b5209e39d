/- Data of a type is a structure of the program (no condition). -/
import Derived.Test.YtfcldaojfbbaoaaDoorTab
import Derived.Test.YtfcldaojfbbaoaaDoorEvK
set_option linter.unusedVariables false
set_option linter.unusedSimpArgs false
set_option linter.unnecessarySimpa false
open Go Go.Proofs Ev
set_option linter.unusedSimpArgs false
set_option maxRecDepth 100000
set_option linter.unusedVariables false
namespace Sp
noncomputable section
theorem wtOf3 : ∀ (n : Nat) (d : PD), wt En n 3 d → ∃ x : Int, d = (PD.int .i64 x) ∧ (Go.Lit.int .i64 x).wf = true
  | 0, _, h => h.elim
  | n + 1, d, h => by
    simp only [wt, ty3, wtK] at h
    obtain ⟨i, rfl, hw⟩ := h
    exact ⟨i, rfl, hw⟩
theorem wtOf5 : ∀ (n : Nat) (d : PD), wt En n 5 d → ∃ x : Int, d = (PD.int .u8 x) ∧ (Go.Lit.int .u8 x).wf = true
  | 0, _, h => h.elim
  | n + 1, d, h => by
    simp only [wt, ty5, wtK] at h
    obtain ⟨i, rfl, hw⟩ := h
    exact ⟨i, rfl, hw⟩
theorem wtOf44 : ∀ (n : Nat) (d : PD), wt En n 44 d → ∃ x : List Int, d = (PD.iarr .u8 32 x) ∧ (x.length = 32 ∧ ∀ i ∈ x, (Go.Lit.int .u8 i).wf = true)
  | 0, _, h => h.elim
  | n + 1, d, h => by
    simp only [wt, ty44, wtK, ty5] at h
    obtain ⟨l, rfl, hl, hx⟩ := h
    exact ⟨l, rfl, hl, hx⟩
theorem wtOf31 : ∀ (n : Nat) (d : PD), wt En n 31 d → ∃ x : List Int, d = (PD.sl 1 (List.map (PD.int .i64) x)) ∧ (x.length ≤ Go.maxLen ∧ ∀ y ∈ x, (Go.Lit.int .i64 y).wf = true)
  | 0, _, h => h.elim
  | n + 1, d, h => by
    simp only [wt, ty31, wtK] at h
    obtain ⟨xs, rfl, hl, hx⟩ := h
    obtain ⟨ys, rfl, hy⟩ := list_ex (f := (PD.int .i64)) (V := fun y => (Go.Lit.int .i64 y).wf = true) fun x hx0 => wtOf3 n x (hx x hx0)
    exact ⟨ys, by simp only [cellsT, ty3], by simpa using hl, hy⟩
theorem wtOf45 : ∀ (n : Nat) (d : PD), wt En n 45 d → ∃ x : List (List Int), d = (PD.sl 32 (List.map (PD.iarr .u8 32) x)) ∧ (x.length ≤ Go.maxLen ∧ ∀ y ∈ x, (y.length = 32 ∧ ∀ i ∈ y, (Go.Lit.int .u8 i).wf = true))
  | 0, _, h => h.elim
  | n + 1, d, h => by
    simp only [wt, ty45, wtK] at h
    obtain ⟨xs, rfl, hl, hx⟩ := h
    obtain ⟨ys, rfl, hy⟩ := list_ex (f := (PD.iarr .u8 32)) (V := fun y => (y.length = 32 ∧ ∀ i ∈ y, (Go.Lit.int .u8 i).wf = true)) fun x hx0 => wtOf44 n x (hx x hx0)
    exact ⟨ys, by simp only [cellsT, ty44], by simpa using hl, hy⟩
theorem wtOf78 : ∀ (n : Nat) (d : PD), wt En n 78 d → ∃ x : Leaf, d = (e_Leaf x) ∧ V_Leaf x
  | 0, _, h => h.elim
  | n + 1, d, h => by
    simp only [wt, ty78, wtK] at h
    obtain ⟨ds, rfl, g0⟩ := h
    obtain ⟨d0, r0, rfl, h0, g1⟩ := wts_cons.1 g0
    obtain ⟨x0, rfl, v0⟩ := wtOf3 n _ h0
    obtain ⟨d1, r1, rfl, h1, g2⟩ := wts_cons.1 g1
    obtain ⟨x1, rfl, v1⟩ := wtOf45 n _ h1
    obtain ⟨d2, r2, rfl, h2, g3⟩ := wts_cons.1 g2
    obtain ⟨x2, rfl, v2⟩ := wtOf45 n _ h2
    obtain rfl := wts_nil.1 g3
    exact ⟨⟨x0, x1, x2⟩, by simp only [List.map_cons, List.map_nil, cellsT, ty3, ty45]; rfl, ⟨v0, v1, v2⟩⟩
theorem wtOf46 : ∀ (n : Nat) (d : PD), wt En n 46 d → ∃ x : List Leaf, d = (PD.sl 3 (List.map e_Leaf x)) ∧ (x.length ≤ Go.maxLen ∧ ∀ y ∈ x, V_Leaf y)
  | 0, _, h => h.elim
  | n + 1, d, h => by
    simp only [wt, ty46, wtK] at h
    obtain ⟨xs, rfl, hl, hx⟩ := h
    obtain ⟨ys, rfl, hy⟩ := list_ex (f := e_Leaf) (V := fun y => V_Leaf y) fun x hx0 => wtOf78 n x (hx x hx0)
    exact ⟨ys, by simp only [cellsT, ty78], by simpa using hl, hy⟩
theorem wtOf48 : ∀ (n : Nat) (d : PD), wt En n 48 d → ∃ x : Copy, d = (e_Copy x) ∧ V_Copy x
  | 0, _, h => h.elim
  | n + 1, d, h => by
    simp only [wt, ty48, wtK] at h
    obtain ⟨ds, rfl, g0⟩ := h
    obtain ⟨d0, r0, rfl, h0, g1⟩ := wts_cons.1 g0
    obtain ⟨x0, rfl, v0⟩ := wtOf3 n _ h0
    obtain ⟨d1, r1, rfl, h1, g2⟩ := wts_cons.1 g1
    obtain ⟨x1, rfl, v1⟩ := wtOf3 n _ h1
    obtain ⟨d2, r2, rfl, h2, g3⟩ := wts_cons.1 g2
    obtain ⟨x2, rfl, v2⟩ := wtOf3 n _ h2
    obtain ⟨d3, r3, rfl, h3, g4⟩ := wts_cons.1 g3
    obtain ⟨x3, rfl, v3⟩ := wtOf3 n _ h3
    obtain ⟨d4, r4, rfl, h4, g5⟩ := wts_cons.1 g4
    obtain ⟨x4, rfl, v4⟩ := wtOf44 n _ h4
    obtain ⟨d5, r5, rfl, h5, g6⟩ := wts_cons.1 g5
    obtain ⟨x5, rfl, v5⟩ := wtOf31 n _ h5
    obtain ⟨d6, r6, rfl, h6, g7⟩ := wts_cons.1 g6
    obtain ⟨x6, rfl, v6⟩ := wtOf45 n _ h6
    obtain ⟨d7, r7, rfl, h7, g8⟩ := wts_cons.1 g7
    obtain ⟨x7, rfl, v7⟩ := wtOf46 n _ h7
    obtain rfl := wts_nil.1 g8
    exact ⟨⟨x0, x1, x2, x3, x4, x5, x6, x7⟩, by simp only [List.map_cons, List.map_nil, cellsT, ty3, ty31, ty44, ty45, ty46]; rfl, ⟨v0, v1, v2, v3, v4, v5, v6, v7⟩⟩
theorem wtOf53 : ∀ (n : Nat) (d : PD), wt En n 53 d → ∃ x : Secret, d = (e_Secret x) ∧ V_Secret x
  | 0, _, h => h.elim
  | n + 1, d, h => by
    simp only [wt, ty53, wtK] at h
    obtain ⟨ds, rfl, g0⟩ := h
    obtain ⟨d0, r0, rfl, h0, g1⟩ := wts_cons.1 g0
    obtain ⟨x0, rfl, v0⟩ := wtOf44 n _ h0
    obtain ⟨d1, r1, rfl, h1, g2⟩ := wts_cons.1 g1
    obtain ⟨x1, rfl, v1⟩ := wtOf45 n _ h1
    obtain rfl := wts_nil.1 g2
    exact ⟨⟨x0, x1⟩, by simp only [List.map_cons, List.map_nil, cellsT, ty44, ty45]; rfl, ⟨v0, v1⟩⟩
theorem wtOf55 : ∀ (n : Nat) (d : PD), wt En n 55 d → ∃ x : Held, d = (e_Held x) ∧ V_Held x
  | 0, _, h => h.elim
  | n + 1, d, h => by
    simp only [wt, ty55, wtK] at h
    obtain ⟨ds, rfl, g0⟩ := h
    obtain ⟨d0, r0, rfl, h0, g1⟩ := wts_cons.1 g0
    obtain ⟨x0, rfl, v0⟩ := wtOf48 n _ h0
    obtain ⟨d1, r1, rfl, h1, g2⟩ := wts_cons.1 g1
    obtain ⟨x1, rfl, v1⟩ := wtOf53 n _ h1
    obtain ⟨d2, r2, rfl, h2, g3⟩ := wts_cons.1 g2
    obtain ⟨x2, rfl, v2⟩ := wtOf3 n _ h2
    obtain ⟨d3, r3, rfl, h3, g4⟩ := wts_cons.1 g3
    obtain ⟨x3, rfl, v3⟩ := wtOf3 n _ h3
    obtain rfl := wts_nil.1 g4
    exact ⟨⟨x0, x1, x2, x3⟩, by simp only [List.map_cons, List.map_nil, cellsT, ty3, ty48, ty53]; rfl, ⟨v0, v1, v2, v3⟩⟩
theorem wtOf22 : ∀ (n : Nat) (d : PD), wt En n 22 d → ∃ x : List Held, d = (PD.sl 74 (List.map e_Held x)) ∧ (x.length ≤ Go.maxLen ∧ ∀ y ∈ x, V_Held y)
  | 0, _, h => h.elim
  | n + 1, d, h => by
    simp only [wt, ty22, wtK] at h
    obtain ⟨xs, rfl, hl, hx⟩ := h
    obtain ⟨ys, rfl, hy⟩ := list_ex (f := e_Held) (V := fun y => V_Held y) fun x hx0 => wtOf55 n x (hx x hx0)
    exact ⟨ys, by simp only [cellsT, ty55], by simpa using hl, hy⟩
theorem wtOf24 : ∀ (n : Nat) (d : PD), wt En n 24 d → ∃ x : Wallet, d = (e_Wallet x) ∧ V_Wallet x
  | 0, _, h => h.elim
  | n + 1, d, h => by
    simp only [wt, ty24, wtK] at h
    obtain ⟨ds, rfl, g0⟩ := h
    obtain ⟨d0, r0, rfl, h0, g1⟩ := wts_cons.1 g0
    obtain ⟨x0, rfl, v0⟩ := wtOf3 n _ h0
    obtain ⟨d1, r1, rfl, h1, g2⟩ := wts_cons.1 g1
    obtain ⟨x1, rfl, v1⟩ := wtOf3 n _ h1
    obtain ⟨d2, r2, rfl, h2, g3⟩ := wts_cons.1 g2
    obtain ⟨x2, rfl, v2⟩ := wtOf22 n _ h2
    obtain rfl := wts_nil.1 g3
    exact ⟨⟨x0, x1, x2⟩, by simp only [List.map_cons, List.map_nil, cellsT, ty3, ty22]; rfl, ⟨v0, v1, v2⟩⟩
theorem isData24 : isData En 16 24 = true := by kernel_rfl
theorem isData3 : isData En 16 3 = true := by kernel_rfl
theorem wtOf41 : ∀ (n : Nat) (d : PD), wt En n 41 d → ∃ x : List Copy, d = (PD.sl 39 (List.map e_Copy x)) ∧ (x.length ≤ Go.maxLen ∧ ∀ y ∈ x, V_Copy y)
  | 0, _, h => h.elim
  | n + 1, d, h => by
    simp only [wt, ty41, wtK] at h
    obtain ⟨xs, rfl, hl, hx⟩ := h
    obtain ⟨ys, rfl, hy⟩ := list_ex (f := e_Copy) (V := fun y => V_Copy y) fun x hx0 => wtOf48 n x (hx x hx0)
    exact ⟨ys, by simp only [cellsT, ty48], by simpa using hl, hy⟩
theorem isData41 : isData En 16 41 = true := by kernel_rfl
theorem wtOf42 : ∀ (n : Nat) (d : PD), wt En n 42 d → ∃ x : List Secret, d = (PD.sl 33 (List.map e_Secret x)) ∧ (x.length ≤ Go.maxLen ∧ ∀ y ∈ x, V_Secret y)
  | 0, _, h => h.elim
  | n + 1, d, h => by
    simp only [wt, ty42, wtK] at h
    obtain ⟨xs, rfl, hl, hx⟩ := h
    obtain ⟨ys, rfl, hy⟩ := list_ex (f := e_Secret) (V := fun y => V_Secret y) fun x hx0 => wtOf53 n x (hx x hx0)
    exact ⟨ys, by simp only [cellsT, ty53], by simpa using hl, hy⟩
theorem isData42 : isData En 16 42 = true := by kernel_rfl
end
end Sp
