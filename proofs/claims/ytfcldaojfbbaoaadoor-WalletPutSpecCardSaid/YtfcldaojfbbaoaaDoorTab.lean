/- The tables of types and functions that the evaluator reads; each row is checked (no condition). -/
import Derived.Test.YtfcldaojfbbaoaaDoorTyp
import Derived.Test.YtfcldaojfbbaoaaDoorProg
set_option linter.unusedVariables false
set_option linter.unusedSimpArgs false
set_option linter.unnecessarySimpa false
open Go Go.Proofs Ev
set_option linter.unusedSimpArgs false
set_option maxRecDepth 100000
set_option linter.unusedVariables false
namespace Sp
noncomputable section
def anns : Nat → Ann
  | 3 => (.s .o (.s (.s .o (.s (.s .o .o) .o)) (.s (.s .o (.s (.s .o .o) .o)) (.s .o (.s .o (.s .o (.s .o (.s .o (.s .o (.s .o .o))))))))))
  | 4 => (.s .o (.s (.s .o (.s (.s .o .o) .o)) (.s (.j [3, 2, 1, 4, 29] .o (.s (.s .o .o) .o)) (.s (.s .o (.i (.l [30, 31, 32, 4, 1, 2, 3] [3, 2, 1, 4, 8] (.s .o (.s (.s .o .o) (.s (.i (.s .o (.s .o (.s (.s .o .o) .o)))) .o)))))) (.s .o (.s .o (.s .o .o)))))))
  | 7 => (.s .o (.s .o (.s .o (.s .o (.s .o (.s .o (.s .o (.s .o (.s .o (.s .o (.s .o (.s .o (.s .o (.s .o (.s .o (.s .o (.s .o (.s (.j [9, 24, 28, 22, 21, 20, 1, 178] .o (.s (.s .o .o) .o)) (.s .o .o)))))))))))))))))))
  | 8 => (.s .o (.s (.s .o (.i (.l [3, 1] [1, 2] (.s (.s .o (.s .o .o)) (.s (.i (.j [1, 3, 29] .o (.s (.s .o .o) .o))) .o))))) (.s .o .o)))
  | 9 => (.s .o (.s (.s .o (.s (.s .o .o) .o)) (.s .o .o)))
  | 10 => (.s .o (.s (.s .o (.s (.s .o .o) .o)) (.s .o .o)))
  | 11 => (.s .o (.s .o (.s (.s .o (.i (.l [17, 2, 18, 19, 4, 5] [5, 4] (.s .o (.s (.s .o .o) (.s (.i (.s .o (.s .o (.s .o (.s (.j [18, 2, 17, 19, 8, 5, 4, 9, 37] .o (.s .o .o)) (.s .o (.s (.s .o (.i (.l [45, 46, 4, 11, 5, 8, 19, 17, 2, 18] [18, 2, 17, 19, 8, 5, 11, 4] (.s .o (.s (.s .o .o) (.s (.i (.s .o .o)) .o)))))) .o))))))) .o)))))) (.s .o .o))))
  | 12 => (.s .o (.s .o (.s .o (.s (.s .o (.i (.l [2, 1, 8, 6, 7] [7, 6] (.s (.j [7, 6, 8, 2, 1, 25] .o (.s .o .o)) (.s (.i (.s .o (.j [1, 2, 8, 7, 6, 9, 10] .o (.s (.s .o (.i (.l [11, 10, 9, 6, 7, 8, 2, 1] [1, 2, 8, 7, 6, 9, 10] (.s (.s .o (.s .o .o)) (.s (.i .o) .o))))) (.s (.s .o (.s .o .o)) (.s .o (.s (.s .o (.i (.l [13, 6, 12, 7, 8, 2, 1] [1, 2, 8, 7, 12, 6] (.s (.s .o (.s .o .o)) (.s (.i .o) .o))))) (.s .o .o)))))))) .o))))) (.s .o .o)))))
  | 13 => (.s .o (.s (.s .o (.s .o (.s (.s .o .o) .o))) (.s (.s .o (.s (.s .o .o) .o)) (.s (.l [4] [] .o) .o))))
  | 14 => (.s .o (.s .o (.s (.s .o (.s (.s .o .o) .o)) (.s (.s .o (.s (.s .o .o) .o)) (.s .o (.s .o (.s (.s .o (.i (.l [1, 8, 7, 4] [4, 7] (.s (.s .o (.s .o .o)) (.s (.i (.j [4, 7, 1, 8, 49] .o (.s .o .o))) .o))))) (.s .o .o))))))))
  | 15 => (.s .o (.s (.j [3, 2, 26] .o (.s (.s .o .o) .o)) (.s (.s .o (.i (.l [2, 3, 5] [4] (.s (.s .o (.s .o .o)) (.s (.i (.s .o (.s (.s .o .o) .o))) .o))))) (.s .o .o))))
  | 16 => (.s .o (.s .o (.s .o (.s (.j [30] .o (.s (.s .o .o) .o)) (.s .o .o)))))
  | 17 => (.s .o (.s (.j [1, 19] .o (.s (.s .o .o) .o)) (.s (.s .o (.i (.l [1, 3] [2] (.s (.s .o (.s .o .o)) (.s (.i (.s .o (.s (.s .o .o) .o))) .o))))) (.s .o .o))))
  | 18 => (.s .o (.s (.s .o (.s (.s .o .o) .o)) (.s (.s .o (.i (.l [0, 1, 5] [4] (.s (.s .o (.s .o .o)) (.s (.i (.j [1, 0, 5, 55] .o (.s (.s .o .o) .o))) .o))))) (.s .o .o))))
  | 19 => (.s .o (.s .o .o))
  | 20 => (.s .o (.s .o .o))
  | 21 => (.s .o (.s .o (.s (.s .o (.i (.l [2, 1, 6, 5] [5] (.s (.s .o (.s .o .o)) (.s (.i (.j [5, 1, 2, 6, 31] .o (.s .o .o))) .o))))) (.s .o .o))))
  | 22 => (.s .o (.s (.s .o (.i (.l [3, 1] [1, 2] (.s (.s .o (.s .o .o)) (.s (.i (.j [1, 3, 28] .o (.s (.s .o .o) .o))) .o))))) (.s .o .o)))
  | 23 => (.s .o (.s (.s .o (.s .o (.s (.s .o .o) .o))) (.s (.s .o (.s (.s .o .o) .o)) (.s .o (.s (.s .o (.i (.l [1, 2, 3, 29, 30, 11, 8] [8, 11] (.s .o (.s (.s .o .o) (.s (.i (.s .o .o)) .o)))))) (.s (.s .o (.s .o (.s (.s .o .o) .o))) (.s .o .o)))))))
  | 24 => (.s .o (.s (.j [8, 3, 2, 1, 4, 22] .o (.s (.s .o .o) .o)) (.s .o (.s .o (.s (.s .o (.i (.l [1, 2, 3, 11, 10, 8] [8, 10] (.s (.s .o (.s .o .o)) (.s (.i .o) .o))))) (.s .o (.s (.s .o (.s (.s .o .o) .o)) (.s .o .o))))))))
  | 25 => (.s .o (.s .o .o))
  | 26 => (.s .o (.s .o (.s .o .o)))
  | 27 => (.s .o (.s .o .o))
  | 28 => (.s .o (.s .o .o))
  | 29 => (.s .o (.s (.s .o (.i (.l [7, 1, 8, 9, 4] [4] (.s .o (.s (.s .o .o) (.s (.i (.s .o (.s .o (.s .o .o)))) .o)))))) (.s .o .o)))
  | 30 => (.s .o (.s .o .o))
  | 31 => (.s .o (.s .o .o))
  | 32 => (.s .o (.s .o .o))
  | 33 => (.s .o (.s (.s .o (.s (.s .o .o) .o)) (.s (.s .o (.i (.l [0, 1, 12, 13] [4] (.s .o (.s (.s .o .o) (.s (.i (.s .o (.s .o (.s (.s .o .o) .o)))) .o)))))) (.s .o .o))))
  | 34 => (.s .o (.s (.s .o (.s (.s .o .o) .o)) (.s (.s .o (.i (.l [0, 1, 5] [4] (.s (.s .o (.s .o .o)) (.s (.i (.s .o (.s (.s .o .o) .o))) .o))))) (.s .o .o))))
  | 35 => (.s .o (.s .o (.s (.s .o (.i (.l [13, 2, 14, 15, 3, 6] [6, 3] (.s .o (.s (.s .o .o) (.s (.i (.s .o .o)) .o)))))) (.s .o .o))))
  | 36 => (.s .o (.s .o .o))
  | 37 => .o
  | 38 => (.s .o (.s .o (.s .o (.s .o (.s .o (.j [5, 7, 8, 11, 10] .o (.s .o .o)))))))
  | 39 => (.s .o (.s (.s .o (.s (.s .o .o) .o)) (.s (.s .o (.i (.l [0, 1, 12, 13] [4] (.s .o (.s (.s .o .o) (.s (.i (.s .o (.s .o (.s (.s .o .o) .o)))) .o)))))) (.s .o .o))))
  | 40 => (.s .o (.s .o (.s (.s .o (.i (.s .o (.i .o)))) (.s .o .o))))
  | 41 => (.s .o (.s .o (.s (.j [5, 1, 2, 49] .o (.s (.s .o .o) .o)) (.s (.s .o (.i (.l [2, 1, 6, 5] [5, 4] (.s (.s .o (.s .o .o)) (.s (.i (.j [5, 1, 2, 6, 78] .o (.s (.s .o .o) .o))) .o))))) (.s .o .o)))))
  | 42 => (.s .o (.s .o .o))
  | 43 => (.s .o (.s (.s .o (.s (.s .o .o) .o)) (.s (.s .o (.i (.l [0, 1, 5] [4] (.s (.s .o (.s .o .o)) (.s (.i (.s .o (.s (.s .o .o) .o))) .o))))) (.s .o .o))))
  | 44 => (.s .o (.s .o .o))
  | 45 => (.s .o (.s (.s .o (.i (.l [1, 0, 7, 8] [4] (.s .o (.s (.s .o .o) (.s (.i (.s .o (.s .o (.s (.s .o .o) .o)))) .o)))))) (.s .o .o)))
  | 46 => (.s .o (.s (.s .o (.s (.s .o .o) .o)) (.s .o .o)))
  | 47 => (.s .o (.s .o .o))
  | 48 => (.s .o (.s .o .o))
  | 49 => (.s .o (.s (.s .o (.i (.l [5, 6, 2, 4] [4, 2] (.s .o (.s (.s .o .o) (.s (.i .o) .o)))))) (.s .o .o)))
  | 50 => (.s .o (.s .o (.s (.s .o (.i (.l [6, 7, 8, 3, 2] [2, 3] (.s .o (.s (.s .o .o) (.s (.i (.s .o .o)) .o)))))) (.s .o .o))))
  | 51 => (.s .o (.s .o (.s (.s .o (.i (.l [1, 4, 3, 2] [2, 3] (.s (.s .o (.s .o .o)) (.s (.i .o) .o))))) (.s .o .o))))
  | 52 => (.s .o (.s (.s .o (.s (.s .o .o) .o)) (.s (.s .o (.i (.l [0, 1, 5] [4] (.s (.s .o (.s .o .o)) (.s (.i (.s .o (.s (.s .o .o) .o))) .o))))) (.s .o .o))))
  | 53 => (.s .o (.s (.s .o (.s (.s .o .o) .o)) (.s (.s .o (.i (.l [0, 1, 5] [4] (.s (.s .o (.s .o .o)) (.s (.i (.s .o (.s (.s .o .o) .o))) .o))))) (.s .o .o))))
  | 54 => (.s .o (.i (.l [0, 1, 4] [] (.s .o (.s (.s .o .o) (.s (.i (.s .o (.s .o (.s .o .o)))) .o))))))
  | 55 => (.s .o (.s .o (.s .o .o)))
  | 56 => (.s .o (.s (.s .o (.i (.l [1, 5, 2, 4] [4, 2] (.s (.s .o (.s .o .o)) (.s (.i .o) .o))))) (.s .o .o)))
  | 57 => (.s .o (.s .o (.s .o .o)))
  | 58 => (.s .o (.s .o (.s (.s .o (.i (.l [0, 4, 3, 2] [2, 3] (.s (.s .o (.s .o .o)) (.s (.i .o) .o))))) (.s .o .o))))
  | 59 => (.s .o (.s .o .o))
  | 60 => (.s .o (.s .o (.s .o (.s .o (.s (.i (.l [5, 0, 4, 3, 2] [2, 3, 4, 0, 5] (.s (.s .o (.s .o .o)) (.s (.i .o) .o)))) (.s .o (.s .o (.s .o (.j [2, 3, 6, 4, 0] (.s .o (.s .o .o)) (.s .o (.s (.i (.l [4, 6, 3, 2] [2, 3] (.s (.s .o (.s .o .o)) (.s (.i .o) .o)))) (.s (.s .o (.i (.l [53, 54, 2] [2] (.s .o (.s (.s .o .o) (.s (.i (.s .o .o)) .o)))))) (.s .o .o)))))))))))))
  | 61 => (.s .o (.s .o (.s (.s .o (.i (.l [9, 10, 11, 3, 0] [0, 3] (.s .o (.s (.s .o .o) (.s (.i (.s .o (.s .o (.s .o (.s .o .o))))) .o)))))) (.s .o (.s (.s .o (.i (.l [25, 26, 27, 6] [6] (.s .o (.s (.s .o .o) (.s (.i (.s .o .o)) .o)))))) (.s .o .o))))))
  | 62 => (.s .o (.s .o .o))
  | 63 => (.s .o (.s .o (.s .o .o)))
  | 64 => (.s .o (.s (.s .o (.i (.l [1, 14, 4, 0] [0, 4] (.s .o (.s (.s .o .o) (.s (.i (.s .o .o)) .o)))))) (.s (.s .o (.i (.l [6, 4, 0] [0, 4] (.s (.s .o (.s .o .o)) (.s (.i (.s .o .o)) .o))))) (.s .o (.s (.s .o (.i (.l [4, 69, 0, 9] [9, 0] (.s .o (.s (.s .o .o) (.s (.i (.s .o (.s .o (.s .o (.s .o (.s .o .o)))))) .o)))))) (.s .o (.i (.l [0, 9, 129] [] (.s .o (.s (.s .o .o) (.s (.i (.s .o .o)) .o)))))))))))
  | 65 => (.s .o (.i (.l [0, 1, 6, 7] [] (.s .o (.s (.s .o .o) (.s (.i (.s .o .o)) .o))))))
  | 66 => (.s .o (.j [0, 1] (.s .o (.s .o .o)) (.s (.s .o (.s .o (.s .o .o))) (.s .o .o))))
  | 67 => (.s .o (.s .o (.s .o (.s (.s .o (.i (.l [4, 5, 3, 2] [2, 3] (.s (.s .o (.s .o .o)) (.s (.i .o) .o))))) (.s .o (.s (.s .o (.i (.l [3, 7, 6, 2] [2, 6] (.s (.s .o (.s .o .o)) (.s (.i .o) .o))))) (.s .o .o)))))))
  | 68 => (.s .o (.s (.s .o (.i (.l [6, 7, 8, 2] [2] (.s .o (.s (.s .o .o) (.s (.i (.s .o .o)) .o)))))) (.s .o .o)))
  | 69 => (.s .o (.s .o (.s .o .o)))
  | 70 => (.s .o (.s .o .o))
  | 71 => (.s .o (.s .o (.s (.i (.l [0, 3] [3, 0] (.s (.s .o (.s .o .o)) (.i .o)))) (.s .o (.s (.s .o (.i (.l [4, 5, 3] [3] (.s (.s .o (.s .o .o)) (.s (.i .o) .o))))) (.s .o .o))))))
  | 72 => (.s .o (.s .o (.s (.s .o (.i (.l [1, 6, 5, 2, 4] [4, 2, 5] (.s (.s .o (.s .o .o)) (.s (.i .o) .o))))) (.s (.s .o (.i (.l [7, 5, 2, 4] [4, 2, 5] (.s (.s .o (.s .o .o)) (.s (.i (.s .o (.s .o .o))) .o))))) (.s .o (.s .o (.s (.s .o (.i (.l [10, 5, 19, 11, 12, 13, 14, 15, 16, 17, 2, 18, 4] [4, 18, 2, 17, 16, 15, 14, 13, 12, 11] (.s (.s .o (.s .o .o)) (.s (.i (.s .o (.s .o .o))) .o))))) (.s .o .o))))))))
  | 73 => (.s .o (.s .o .o))
  | 74 => (.s .o (.s .o .o))
  | 75 => (.s .o (.s .o .o))
  | _ => .o
def frzs (f : Nat) : Bool := !([29, 30, 31, 32, 35, 37, 38, 45, 46, 47, 48, 54, 64, 65, 66, 68] : List Nat).contains f
def raws (f : Nat) : Bool := ([35, 46, 48, 65, 66, 68] : List Nat).contains f
def globs : Nat → Option PD
  | 0 => some ((.iarr .u32 8 G0))
  | 1 => some ((.iarr .u32 64 G1))
  | _ => none
noncomputable def En : Ev.Env := Env.of Tryd.prog anns globs raws frzs
@[go_sem] theorem En_raw3 : En.raw 3 = false := rfl
@[go_sem] theorem En_raw4 : En.raw 4 = false := rfl
@[go_sem] theorem En_raw7 : En.raw 7 = false := rfl
@[go_sem] theorem En_raw8 : En.raw 8 = false := rfl
@[go_sem] theorem En_raw9 : En.raw 9 = false := rfl
@[go_sem] theorem En_raw10 : En.raw 10 = false := rfl
@[go_sem] theorem En_raw11 : En.raw 11 = false := rfl
@[go_sem] theorem En_raw12 : En.raw 12 = false := rfl
@[go_sem] theorem En_raw13 : En.raw 13 = false := rfl
@[go_sem] theorem En_raw14 : En.raw 14 = false := rfl
@[go_sem] theorem En_raw15 : En.raw 15 = false := rfl
@[go_sem] theorem En_raw16 : En.raw 16 = false := rfl
@[go_sem] theorem En_raw17 : En.raw 17 = false := rfl
@[go_sem] theorem En_raw18 : En.raw 18 = false := rfl
@[go_sem] theorem En_raw19 : En.raw 19 = false := rfl
@[go_sem] theorem En_raw20 : En.raw 20 = false := rfl
@[go_sem] theorem En_raw21 : En.raw 21 = false := rfl
@[go_sem] theorem En_raw22 : En.raw 22 = false := rfl
@[go_sem] theorem En_raw23 : En.raw 23 = false := rfl
@[go_sem] theorem En_raw24 : En.raw 24 = false := rfl
@[go_sem] theorem En_raw25 : En.raw 25 = false := rfl
@[go_sem] theorem En_raw26 : En.raw 26 = false := rfl
@[go_sem] theorem En_raw27 : En.raw 27 = false := rfl
@[go_sem] theorem En_raw28 : En.raw 28 = false := rfl
@[go_sem] theorem En_raw29 : En.raw 29 = false := rfl
@[go_sem] theorem En_raw30 : En.raw 30 = false := rfl
@[go_sem] theorem En_raw31 : En.raw 31 = false := rfl
@[go_sem] theorem En_raw32 : En.raw 32 = false := rfl
@[go_sem] theorem En_raw33 : En.raw 33 = false := rfl
@[go_sem] theorem En_raw34 : En.raw 34 = false := rfl
@[go_sem] theorem En_raw35 : En.raw 35 = true := rfl
@[go_sem] theorem En_raw36 : En.raw 36 = false := rfl
@[go_sem] theorem En_raw37 : En.raw 37 = false := rfl
@[go_sem] theorem En_raw38 : En.raw 38 = false := rfl
@[go_sem] theorem En_raw39 : En.raw 39 = false := rfl
@[go_sem] theorem En_raw40 : En.raw 40 = false := rfl
@[go_sem] theorem En_raw41 : En.raw 41 = false := rfl
@[go_sem] theorem En_raw42 : En.raw 42 = false := rfl
@[go_sem] theorem En_raw43 : En.raw 43 = false := rfl
@[go_sem] theorem En_raw44 : En.raw 44 = false := rfl
@[go_sem] theorem En_raw45 : En.raw 45 = false := rfl
@[go_sem] theorem En_raw46 : En.raw 46 = true := rfl
@[go_sem] theorem En_raw47 : En.raw 47 = false := rfl
@[go_sem] theorem En_raw48 : En.raw 48 = true := rfl
@[go_sem] theorem En_raw49 : En.raw 49 = false := rfl
@[go_sem] theorem En_raw50 : En.raw 50 = false := rfl
@[go_sem] theorem En_raw51 : En.raw 51 = false := rfl
@[go_sem] theorem En_raw52 : En.raw 52 = false := rfl
@[go_sem] theorem En_raw53 : En.raw 53 = false := rfl
@[go_sem] theorem En_raw54 : En.raw 54 = false := rfl
@[go_sem] theorem En_raw55 : En.raw 55 = false := rfl
@[go_sem] theorem En_raw56 : En.raw 56 = false := rfl
@[go_sem] theorem En_raw57 : En.raw 57 = false := rfl
@[go_sem] theorem En_raw58 : En.raw 58 = false := rfl
@[go_sem] theorem En_raw59 : En.raw 59 = false := rfl
@[go_sem] theorem En_raw60 : En.raw 60 = false := rfl
@[go_sem] theorem En_raw61 : En.raw 61 = false := rfl
@[go_sem] theorem En_raw62 : En.raw 62 = false := rfl
@[go_sem] theorem En_raw63 : En.raw 63 = false := rfl
@[go_sem] theorem En_raw64 : En.raw 64 = false := rfl
@[go_sem] theorem En_raw65 : En.raw 65 = true := rfl
@[go_sem] theorem En_raw66 : En.raw 66 = true := rfl
@[go_sem] theorem En_raw67 : En.raw 67 = false := rfl
@[go_sem] theorem En_raw68 : En.raw 68 = true := rfl
@[go_sem] theorem En_raw69 : En.raw 69 = false := rfl
@[go_sem] theorem En_raw70 : En.raw 70 = false := rfl
@[go_sem] theorem En_raw71 : En.raw 71 = false := rfl
@[go_sem] theorem En_raw72 : En.raw 72 = false := rfl
@[go_sem] theorem En_raw73 : En.raw 73 = false := rfl
@[go_sem] theorem En_raw74 : En.raw 74 = false := rfl
@[go_sem] theorem En_raw75 : En.raw 75 = false := rfl
@[go_sem] theorem En_glob0 : En.glob 0 = some ((.iarr .u32 8 G0)) := rfl
@[go_sem] theorem En_glob1 : En.glob 1 = some ((.iarr .u32 64 G1)) := rfl
@[go_sem] theorem ty3 : En.ty 3 = some ⟨(.int .i64), 1, 8, (.p (.int .i64 0))⟩ := by kernel_rfl
@[go_sem] theorem ty4 : En.ty 4 = some ⟨.bool, 1, 1, (.p (.bool false))⟩ := by kernel_rfl
@[go_sem] theorem ty5 : En.ty 5 = some ⟨(.int .u8), 1, 1, (.p (.int .u8 0))⟩ := by kernel_rfl
@[go_sem] theorem ty9 : En.ty 9 = some ⟨.str, 1, 16, (.p (.str ByteArray.empty))⟩ := by kernel_rfl
@[go_sem] theorem ty20 : En.ty 20 = some ⟨.iface, 1, 16, (.p .nili)⟩ := by kernel_rfl
@[go_sem] theorem ty22 : En.ty 22 = some ⟨(.slice 55), 1, 24, (.nils 74)⟩ := by kernel_rfl
@[go_sem] def z24 : AV := (.agg [1, 1, 1] [(.p (.int .i64 0)), (.p (.int .i64 0)), (.nils 74)])
@[go_sem] theorem ty24 : En.ty 24 = some ⟨(.struct [(0, 3), (1, 3), (2, 22)]), 3, 40, z24⟩ := by kernel_rfl
@[go_sem] theorem ty27 : En.ty 27 = some ⟨(.int .i64), 1, 8, (.p (.int .i64 0))⟩ := by kernel_rfl
@[go_sem] theorem ty30 : En.ty 30 = some ⟨(.slice 57), 1, 24, (.nils 3)⟩ := by kernel_rfl
@[go_sem] theorem ty31 : En.ty 31 = some ⟨(.slice 3), 1, 24, (.nils 1)⟩ := by kernel_rfl
@[go_sem] theorem ty41 : En.ty 41 = some ⟨(.slice 48), 1, 24, (.nils 39)⟩ := by kernel_rfl
@[go_sem] theorem ty42 : En.ty 42 = some ⟨(.slice 53), 1, 24, (.nils 33)⟩ := by kernel_rfl
@[go_sem] theorem ty44 : En.ty 44 = some ⟨(.array 32 5), 32, 32, (.p (.iarr .u8 32 (List.replicate 32 0)))⟩ := by kernel_rfl
@[go_sem] theorem ty45 : En.ty 45 = some ⟨(.slice 44), 1, 24, (.nils 32)⟩ := by kernel_rfl
@[go_sem] theorem ty46 : En.ty 46 = some ⟨(.slice 78), 1, 24, (.nils 3)⟩ := by kernel_rfl
@[go_sem] def z48 : AV := (.agg [1, 1, 1, 1, 32, 1, 1, 1] [(.p (.int .i64 0)), (.p (.int .i64 0)), (.p (.int .i64 0)), (.p (.int .i64 0)), (.p (.iarr .u8 32 (List.replicate 32 0))), (.nils 1), (.nils 32), (.nils 3)])
@[go_sem] theorem ty48 : En.ty 48 = some ⟨(.struct [(0, 3), (1, 3), (2, 3), (3, 3), (4, 44), (36, 31), (37, 45), (38, 46)]), 39, 136, z48⟩ := by kernel_rfl
@[go_sem] def z53 : AV := (.agg [32, 1] [(.p (.iarr .u8 32 (List.replicate 32 0))), (.nils 32)])
@[go_sem] theorem ty53 : En.ty 53 = some ⟨(.struct [(0, 44), (32, 45)]), 33, 56, z53⟩ := by kernel_rfl
@[go_sem] def z55 : AV := (.agg [39, 33, 1, 1] [(.agg [1, 1, 1, 1, 32, 1, 1, 1] [(.p (.int .i64 0)), (.p (.int .i64 0)), (.p (.int .i64 0)), (.p (.int .i64 0)), (.p (.iarr .u8 32 (List.replicate 32 0))), (.nils 1), (.nils 32), (.nils 3)]), (.agg [32, 1] [(.p (.iarr .u8 32 (List.replicate 32 0))), (.nils 32)]), (.p (.int .i64 0)), (.p (.int .i64 0))])
@[go_sem] theorem ty55 : En.ty 55 = some ⟨(.struct [(0, 48), (39, 53), (72, 3), (73, 3)]), 74, 208, z55⟩ := by kernel_rfl
@[go_sem] theorem ty57 : En.ty 57 = some ⟨(.struct [(0, 3), (1, 31), (2, 31)]), 3, 56, (.agg [1, 1, 1] [(.p (.int .i64 0)), (.nils 1), (.nils 1)])⟩ := by kernel_rfl
@[go_sem] theorem ty65 : En.ty 65 = some ⟨.func, 1, 8, (.p .nilf)⟩ := by kernel_rfl
@[go_sem] theorem ty67 : En.ty 67 = some ⟨.func, 1, 8, (.p .nilf)⟩ := by kernel_rfl
@[go_sem] theorem ty70 : En.ty 70 = some ⟨(.ptr 55), 1, 8, .nilp⟩ := by kernel_rfl
@[go_sem] theorem ty71 : En.ty 71 = some ⟨.func, 1, 8, (.p .nilf)⟩ := by kernel_rfl
@[go_sem] theorem ty72 : En.ty 72 = some ⟨(.map 74 4), 1, 8, .nilm⟩ := by kernel_rfl
@[go_sem] theorem ty74 : En.ty 74 = some ⟨(.struct [(0, 3), (1, 3)]), 2, 16, (.p (.agg [1, 1] [(.int .i64 0), (.int .i64 0)]))⟩ := by kernel_rfl
@[go_sem] def z78 : AV := (.agg [1, 1, 1] [(.p (.int .i64 0)), (.nils 32), (.nils 32)])
@[go_sem] theorem ty78 : En.ty 78 = some ⟨(.struct [(0, 3), (1, 45), (2, 45)]), 3, 56, z78⟩ := by kernel_rfl
@[go_sem] theorem ty83 : En.ty 83 = some ⟨.func, 1, 8, (.p .nilf)⟩ := by kernel_rfl
@[go_sem] theorem ty84 : En.ty 84 = some ⟨.func, 1, 8, (.p .nilf)⟩ := by kernel_rfl
@[go_sem] theorem ty89 : En.ty 89 = some ⟨.func, 1, 8, (.p .nilf)⟩ := by kernel_rfl
@[go_sem] theorem ty91 : En.ty 91 = some ⟨(.slice 5), 1, 24, (.nils 1)⟩ := by kernel_rfl
@[go_sem] theorem ty96 : En.ty 96 = some ⟨(.int .u32), 1, 4, (.p (.int .u32 0))⟩ := by kernel_rfl
@[go_sem] theorem ty97 : En.ty 97 = some ⟨(.array 8 96), 8, 32, (.p (.iarr .u32 8 (List.replicate 8 0)))⟩ := by kernel_rfl
@[go_sem] theorem ty98 : En.ty 98 = some ⟨(.array 8 96), 8, 32, (.p (.iarr .u32 8 (List.replicate 8 0)))⟩ := by kernel_rfl
@[go_sem] theorem ty99 : En.ty 99 = some ⟨.func, 1, 8, (.p .nilf)⟩ := by kernel_rfl
@[go_sem] theorem ty101 : En.ty 101 = some ⟨(.int .u64), 1, 8, (.p (.int .u64 0))⟩ := by kernel_rfl
@[go_sem] theorem ty102 : En.ty 102 = some ⟨(.slice 91), 1, 24, (.nils 1)⟩ := by kernel_rfl
@[go_sem] theorem ty104 : En.ty 104 = some ⟨(.ptr 98), 1, 8, .nilp⟩ := by kernel_rfl
@[go_sem] theorem ty105 : En.ty 105 = some ⟨(.array 64 96), 64, 256, (.p (.iarr .u32 64 (List.replicate 64 0)))⟩ := by kernel_rfl
@[go_sem] theorem ty108 : En.ty 108 = some ⟨(.int .u64), 1, 8, (.p (.int .u64 0))⟩ := by kernel_rfl
@[go_sem] theorem ty110 : En.ty 110 = some ⟨(.slice 96), 1, 24, (.nils 1)⟩ := by kernel_rfl
@[go_sem] theorem fa24_0 (x : Wallet) : En.fieldAddrA 24 (.pp (e_Wallet x)) 0 = some (.pp (.int .i64 x.Person)) := by
  rw [fieldAddr_eq En 24 _ 0 (fun d h => by cases h; exact ⟨_, _, rfl⟩)]; simp only [go_sem, reduceIte, reduceCtorEq, Nat.reduceAdd, Nat.reduceSub, Nat.reduceMul, Nat.reduceEqDiff, Nat.reduceLT, Nat.reduceLeDiff, Nat.reduceBEq, Nat.reduceBNe, Int.reduceToNat, Int.reduceLT, Int.reduceLE, Int.reduceEq, Int.reduceBEq, Int.reduceBNe, Int.reduceAdd, Int.reduceSub, Int.reduceMul, Int.reduceNeg, Int.reduceOfNat, Int.reduceNatCast, Nat.reducePow]
@[go_sem] theorem fa24_1 (x : Wallet) : En.fieldAddrA 24 (.pp (e_Wallet x)) 1 = some (.pp (.int .i64 x.Link)) := by
  rw [fieldAddr_eq En 24 _ 1 (fun d h => by cases h; exact ⟨_, _, rfl⟩)]; simp only [go_sem, reduceIte, reduceCtorEq, Nat.reduceAdd, Nat.reduceSub, Nat.reduceMul, Nat.reduceEqDiff, Nat.reduceLT, Nat.reduceLeDiff, Nat.reduceBEq, Nat.reduceBNe, Int.reduceToNat, Int.reduceLT, Int.reduceLE, Int.reduceEq, Int.reduceBEq, Int.reduceBNe, Int.reduceAdd, Int.reduceSub, Int.reduceMul, Int.reduceNeg, Int.reduceOfNat, Int.reduceNatCast, Nat.reducePow]
@[go_sem] theorem fa24_2 (x : Wallet) : En.fieldAddrA 24 (.pp (e_Wallet x)) 2 = some (.pp (.sl 74 (List.map e_Held x.Held))) := by
  rw [fieldAddr_eq En 24 _ 2 (fun d h => by cases h; exact ⟨_, _, rfl⟩)]; simp only [go_sem, reduceIte, reduceCtorEq, Nat.reduceAdd, Nat.reduceSub, Nat.reduceMul, Nat.reduceEqDiff, Nat.reduceLT, Nat.reduceLeDiff, Nat.reduceBEq, Nat.reduceBNe, Int.reduceToNat, Int.reduceLT, Int.reduceLE, Int.reduceEq, Int.reduceBEq, Int.reduceBNe, Int.reduceAdd, Int.reduceSub, Int.reduceMul, Int.reduceNeg, Int.reduceOfNat, Int.reduceNatCast, Nat.reducePow]
@[go_sem] theorem fa48_0 (x : Copy) : En.fieldAddrA 48 (.pp (e_Copy x)) 0 = some (.pp (.int .i64 x.Issuer)) := by
  rw [fieldAddr_eq En 48 _ 0 (fun d h => by cases h; exact ⟨_, _, rfl⟩)]; simp only [go_sem, reduceIte, reduceCtorEq, Nat.reduceAdd, Nat.reduceSub, Nat.reduceMul, Nat.reduceEqDiff, Nat.reduceLT, Nat.reduceLeDiff, Nat.reduceBEq, Nat.reduceBNe, Int.reduceToNat, Int.reduceLT, Int.reduceLE, Int.reduceEq, Int.reduceBEq, Int.reduceBNe, Int.reduceAdd, Int.reduceSub, Int.reduceMul, Int.reduceNeg, Int.reduceOfNat, Int.reduceNatCast, Nat.reducePow]
@[go_sem] theorem fa48_1 (x : Copy) : En.fieldAddrA 48 (.pp (e_Copy x)) 1 = some (.pp (.int .i64 x.Round)) := by
  rw [fieldAddr_eq En 48 _ 1 (fun d h => by cases h; exact ⟨_, _, rfl⟩)]; simp only [go_sem, reduceIte, reduceCtorEq, Nat.reduceAdd, Nat.reduceSub, Nat.reduceMul, Nat.reduceEqDiff, Nat.reduceLT, Nat.reduceLeDiff, Nat.reduceBEq, Nat.reduceBNe, Int.reduceToNat, Int.reduceLT, Int.reduceLE, Int.reduceEq, Int.reduceBEq, Int.reduceBNe, Int.reduceAdd, Int.reduceSub, Int.reduceMul, Int.reduceNeg, Int.reduceOfNat, Int.reduceNatCast, Nat.reducePow]
@[go_sem] theorem fa48_2 (x : Copy) : En.fieldAddrA 48 (.pp (e_Copy x)) 2 = some (.pp (.int .i64 x.Schema)) := by
  rw [fieldAddr_eq En 48 _ 2 (fun d h => by cases h; exact ⟨_, _, rfl⟩)]; simp only [go_sem, reduceIte, reduceCtorEq, Nat.reduceAdd, Nat.reduceSub, Nat.reduceMul, Nat.reduceEqDiff, Nat.reduceLT, Nat.reduceLeDiff, Nat.reduceBEq, Nat.reduceBNe, Int.reduceToNat, Int.reduceLT, Int.reduceLE, Int.reduceEq, Int.reduceBEq, Int.reduceBNe, Int.reduceAdd, Int.reduceSub, Int.reduceMul, Int.reduceNeg, Int.reduceOfNat, Int.reduceNatCast, Nat.reducePow]
@[go_sem] theorem fa48_3 (x : Copy) : En.fieldAddrA 48 (.pp (e_Copy x)) 3 = some (.pp (.int .i64 x.Place)) := by
  rw [fieldAddr_eq En 48 _ 3 (fun d h => by cases h; exact ⟨_, _, rfl⟩)]; simp only [go_sem, reduceIte, reduceCtorEq, Nat.reduceAdd, Nat.reduceSub, Nat.reduceMul, Nat.reduceEqDiff, Nat.reduceLT, Nat.reduceLeDiff, Nat.reduceBEq, Nat.reduceBNe, Int.reduceToNat, Int.reduceLT, Int.reduceLE, Int.reduceEq, Int.reduceBEq, Int.reduceBNe, Int.reduceAdd, Int.reduceSub, Int.reduceMul, Int.reduceNeg, Int.reduceOfNat, Int.reduceNatCast, Nat.reducePow]
@[go_sem] theorem fa48_4 (x : Copy) : En.fieldAddrA 48 (.pp (e_Copy x)) 4 = some (.pp (.iarr .u8 32 x.Holder)) := by
  rw [fieldAddr_eq En 48 _ 4 (fun d h => by cases h; exact ⟨_, _, rfl⟩)]; simp only [go_sem, reduceIte, reduceCtorEq, Nat.reduceAdd, Nat.reduceSub, Nat.reduceMul, Nat.reduceEqDiff, Nat.reduceLT, Nat.reduceLeDiff, Nat.reduceBEq, Nat.reduceBNe, Int.reduceToNat, Int.reduceLT, Int.reduceLE, Int.reduceEq, Int.reduceBEq, Int.reduceBNe, Int.reduceAdd, Int.reduceSub, Int.reduceMul, Int.reduceNeg, Int.reduceOfNat, Int.reduceNatCast, Nat.reducePow]
@[go_sem] theorem fa48_5 (x : Copy) : En.fieldAddrA 48 (.pp (e_Copy x)) 5 = some (.pp (.sl 1 (List.map (PD.int .i64) x.Values))) := by
  rw [fieldAddr_eq En 48 _ 5 (fun d h => by cases h; exact ⟨_, _, rfl⟩)]; simp only [go_sem, reduceIte, reduceCtorEq, Nat.reduceAdd, Nat.reduceSub, Nat.reduceMul, Nat.reduceEqDiff, Nat.reduceLT, Nat.reduceLeDiff, Nat.reduceBEq, Nat.reduceBNe, Int.reduceToNat, Int.reduceLT, Int.reduceLE, Int.reduceEq, Int.reduceBEq, Int.reduceBNe, Int.reduceAdd, Int.reduceSub, Int.reduceMul, Int.reduceNeg, Int.reduceOfNat, Int.reduceNatCast, Nat.reducePow]
@[go_sem] theorem fa48_6 (x : Copy) : En.fieldAddrA 48 (.pp (e_Copy x)) 6 = some (.pp (.sl 32 (List.map (PD.iarr .u8 32) x.Links))) := by
  rw [fieldAddr_eq En 48 _ 6 (fun d h => by cases h; exact ⟨_, _, rfl⟩)]; simp only [go_sem, reduceIte, reduceCtorEq, Nat.reduceAdd, Nat.reduceSub, Nat.reduceMul, Nat.reduceEqDiff, Nat.reduceLT, Nat.reduceLeDiff, Nat.reduceBEq, Nat.reduceBNe, Int.reduceToNat, Int.reduceLT, Int.reduceLE, Int.reduceEq, Int.reduceBEq, Int.reduceBNe, Int.reduceAdd, Int.reduceSub, Int.reduceMul, Int.reduceNeg, Int.reduceOfNat, Int.reduceNatCast, Nat.reducePow]
@[go_sem] theorem fa48_7 (x : Copy) : En.fieldAddrA 48 (.pp (e_Copy x)) 7 = some (.pp (.sl 3 (List.map e_Leaf x.Claims))) := by
  rw [fieldAddr_eq En 48 _ 7 (fun d h => by cases h; exact ⟨_, _, rfl⟩)]; simp only [go_sem, reduceIte, reduceCtorEq, Nat.reduceAdd, Nat.reduceSub, Nat.reduceMul, Nat.reduceEqDiff, Nat.reduceLT, Nat.reduceLeDiff, Nat.reduceBEq, Nat.reduceBNe, Int.reduceToNat, Int.reduceLT, Int.reduceLE, Int.reduceEq, Int.reduceBEq, Int.reduceBNe, Int.reduceAdd, Int.reduceSub, Int.reduceMul, Int.reduceNeg, Int.reduceOfNat, Int.reduceNatCast, Nat.reducePow]
@[go_sem] theorem fa53_0 (x : Secret) : En.fieldAddrA 53 (.pp (e_Secret x)) 0 = some (.pp (.iarr .u8 32 x.Seed)) := by
  rw [fieldAddr_eq En 53 _ 0 (fun d h => by cases h; exact ⟨_, _, rfl⟩)]; simp only [go_sem, reduceIte, reduceCtorEq, Nat.reduceAdd, Nat.reduceSub, Nat.reduceMul, Nat.reduceEqDiff, Nat.reduceLT, Nat.reduceLeDiff, Nat.reduceBEq, Nat.reduceBNe, Int.reduceToNat, Int.reduceLT, Int.reduceLE, Int.reduceEq, Int.reduceBEq, Int.reduceBNe, Int.reduceAdd, Int.reduceSub, Int.reduceMul, Int.reduceNeg, Int.reduceOfNat, Int.reduceNatCast, Nat.reducePow]
@[go_sem] theorem fa53_1 (x : Secret) : En.fieldAddrA 53 (.pp (e_Secret x)) 1 = some (.pp (.sl 32 (List.map (PD.iarr .u8 32) x.Links))) := by
  rw [fieldAddr_eq En 53 _ 1 (fun d h => by cases h; exact ⟨_, _, rfl⟩)]; simp only [go_sem, reduceIte, reduceCtorEq, Nat.reduceAdd, Nat.reduceSub, Nat.reduceMul, Nat.reduceEqDiff, Nat.reduceLT, Nat.reduceLeDiff, Nat.reduceBEq, Nat.reduceBNe, Int.reduceToNat, Int.reduceLT, Int.reduceLE, Int.reduceEq, Int.reduceBEq, Int.reduceBNe, Int.reduceAdd, Int.reduceSub, Int.reduceMul, Int.reduceNeg, Int.reduceOfNat, Int.reduceNatCast, Nat.reducePow]
@[go_sem] theorem fa55_0 (x : Held) : En.fieldAddrA 55 (.pp (e_Held x)) 0 = some (.pp (e_Copy x.Copy)) := by
  rw [fieldAddr_eq En 55 _ 0 (fun d h => by cases h; exact ⟨_, _, rfl⟩)]; simp only [go_sem, reduceIte, reduceCtorEq, Nat.reduceAdd, Nat.reduceSub, Nat.reduceMul, Nat.reduceEqDiff, Nat.reduceLT, Nat.reduceLeDiff, Nat.reduceBEq, Nat.reduceBNe, Int.reduceToNat, Int.reduceLT, Int.reduceLE, Int.reduceEq, Int.reduceBEq, Int.reduceBNe, Int.reduceAdd, Int.reduceSub, Int.reduceMul, Int.reduceNeg, Int.reduceOfNat, Int.reduceNatCast, Nat.reducePow]
@[go_sem] theorem fa55_1 (x : Held) : En.fieldAddrA 55 (.pp (e_Held x)) 1 = some (.pp (e_Secret x.Secret)) := by
  rw [fieldAddr_eq En 55 _ 1 (fun d h => by cases h; exact ⟨_, _, rfl⟩)]; simp only [go_sem, reduceIte, reduceCtorEq, Nat.reduceAdd, Nat.reduceSub, Nat.reduceMul, Nat.reduceEqDiff, Nat.reduceLT, Nat.reduceLeDiff, Nat.reduceBEq, Nat.reduceBNe, Int.reduceToNat, Int.reduceLT, Int.reduceLE, Int.reduceEq, Int.reduceBEq, Int.reduceBNe, Int.reduceAdd, Int.reduceSub, Int.reduceMul, Int.reduceNeg, Int.reduceOfNat, Int.reduceNatCast, Nat.reducePow]
@[go_sem] theorem fa55_2 (x : Held) : En.fieldAddrA 55 (.pp (e_Held x)) 2 = some (.pp (.int .i64 x.Device)) := by
  rw [fieldAddr_eq En 55 _ 2 (fun d h => by cases h; exact ⟨_, _, rfl⟩)]; simp only [go_sem, reduceIte, reduceCtorEq, Nat.reduceAdd, Nat.reduceSub, Nat.reduceMul, Nat.reduceEqDiff, Nat.reduceLT, Nat.reduceLeDiff, Nat.reduceBEq, Nat.reduceBNe, Int.reduceToNat, Int.reduceLT, Int.reduceLE, Int.reduceEq, Int.reduceBEq, Int.reduceBNe, Int.reduceAdd, Int.reduceSub, Int.reduceMul, Int.reduceNeg, Int.reduceOfNat, Int.reduceNatCast, Nat.reducePow]
@[go_sem] theorem fa55_3 (x : Held) : En.fieldAddrA 55 (.pp (e_Held x)) 3 = some (.pp (.int .i64 x.State)) := by
  rw [fieldAddr_eq En 55 _ 3 (fun d h => by cases h; exact ⟨_, _, rfl⟩)]; simp only [go_sem, reduceIte, reduceCtorEq, Nat.reduceAdd, Nat.reduceSub, Nat.reduceMul, Nat.reduceEqDiff, Nat.reduceLT, Nat.reduceLeDiff, Nat.reduceBEq, Nat.reduceBNe, Int.reduceToNat, Int.reduceLT, Int.reduceLE, Int.reduceEq, Int.reduceBEq, Int.reduceBNe, Int.reduceAdd, Int.reduceSub, Int.reduceMul, Int.reduceNeg, Int.reduceOfNat, Int.reduceNatCast, Nat.reducePow]
@[go_sem] theorem fa57_0 (x : Claims) : En.fieldAddrA 57 (.pp (e_Claims x)) 0 = some (.pp (.int .i64 x.Schema)) := by
  rw [fieldAddr_eq En 57 _ 0 (fun d h => by cases h; exact ⟨_, _, rfl⟩)]; simp only [go_sem, reduceIte, reduceCtorEq, Nat.reduceAdd, Nat.reduceSub, Nat.reduceMul, Nat.reduceEqDiff, Nat.reduceLT, Nat.reduceLeDiff, Nat.reduceBEq, Nat.reduceBNe, Int.reduceToNat, Int.reduceLT, Int.reduceLE, Int.reduceEq, Int.reduceBEq, Int.reduceBNe, Int.reduceAdd, Int.reduceSub, Int.reduceMul, Int.reduceNeg, Int.reduceOfNat, Int.reduceNatCast, Nat.reducePow]
@[go_sem] theorem fa57_1 (x : Claims) : En.fieldAddrA 57 (.pp (e_Claims x)) 1 = some (.pp (.sl 1 (List.map (PD.int .i64) x.Fields))) := by
  rw [fieldAddr_eq En 57 _ 1 (fun d h => by cases h; exact ⟨_, _, rfl⟩)]; simp only [go_sem, reduceIte, reduceCtorEq, Nat.reduceAdd, Nat.reduceSub, Nat.reduceMul, Nat.reduceEqDiff, Nat.reduceLT, Nat.reduceLeDiff, Nat.reduceBEq, Nat.reduceBNe, Int.reduceToNat, Int.reduceLT, Int.reduceLE, Int.reduceEq, Int.reduceBEq, Int.reduceBNe, Int.reduceAdd, Int.reduceSub, Int.reduceMul, Int.reduceNeg, Int.reduceOfNat, Int.reduceNatCast, Nat.reducePow]
@[go_sem] theorem fa57_2 (x : Claims) : En.fieldAddrA 57 (.pp (e_Claims x)) 2 = some (.pp (.sl 1 (List.map (PD.int .i64) x.Values))) := by
  rw [fieldAddr_eq En 57 _ 2 (fun d h => by cases h; exact ⟨_, _, rfl⟩)]; simp only [go_sem, reduceIte, reduceCtorEq, Nat.reduceAdd, Nat.reduceSub, Nat.reduceMul, Nat.reduceEqDiff, Nat.reduceLT, Nat.reduceLeDiff, Nat.reduceBEq, Nat.reduceBNe, Int.reduceToNat, Int.reduceLT, Int.reduceLE, Int.reduceEq, Int.reduceBEq, Int.reduceBNe, Int.reduceAdd, Int.reduceSub, Int.reduceMul, Int.reduceNeg, Int.reduceOfNat, Int.reduceNatCast, Nat.reducePow]
@[go_sem] theorem fa74_0 (x : Place) : En.fieldAddrA 74 (.pp (e_Place x)) 0 = some (.pp (.int .i64 x.Round)) := by
  rw [fieldAddr_eq En 74 _ 0 (fun d h => by cases h; exact ⟨_, _, rfl⟩)]; simp only [go_sem, reduceIte, reduceCtorEq, Nat.reduceAdd, Nat.reduceSub, Nat.reduceMul, Nat.reduceEqDiff, Nat.reduceLT, Nat.reduceLeDiff, Nat.reduceBEq, Nat.reduceBNe, Int.reduceToNat, Int.reduceLT, Int.reduceLE, Int.reduceEq, Int.reduceBEq, Int.reduceBNe, Int.reduceAdd, Int.reduceSub, Int.reduceMul, Int.reduceNeg, Int.reduceOfNat, Int.reduceNatCast, Nat.reducePow]
@[go_sem] theorem fa74_1 (x : Place) : En.fieldAddrA 74 (.pp (e_Place x)) 1 = some (.pp (.int .i64 x.Place)) := by
  rw [fieldAddr_eq En 74 _ 1 (fun d h => by cases h; exact ⟨_, _, rfl⟩)]; simp only [go_sem, reduceIte, reduceCtorEq, Nat.reduceAdd, Nat.reduceSub, Nat.reduceMul, Nat.reduceEqDiff, Nat.reduceLT, Nat.reduceLeDiff, Nat.reduceBEq, Nat.reduceBNe, Int.reduceToNat, Int.reduceLT, Int.reduceLE, Int.reduceEq, Int.reduceBEq, Int.reduceBNe, Int.reduceAdd, Int.reduceSub, Int.reduceMul, Int.reduceNeg, Int.reduceOfNat, Int.reduceNatCast, Nat.reducePow]
@[go_sem] theorem fa78_0 (x : Leaf) : En.fieldAddrA 78 (.pp (e_Leaf x)) 0 = some (.pp (.int .i64 x.Index)) := by
  rw [fieldAddr_eq En 78 _ 0 (fun d h => by cases h; exact ⟨_, _, rfl⟩)]; simp only [go_sem, reduceIte, reduceCtorEq, Nat.reduceAdd, Nat.reduceSub, Nat.reduceMul, Nat.reduceEqDiff, Nat.reduceLT, Nat.reduceLeDiff, Nat.reduceBEq, Nat.reduceBNe, Int.reduceToNat, Int.reduceLT, Int.reduceLE, Int.reduceEq, Int.reduceBEq, Int.reduceBNe, Int.reduceAdd, Int.reduceSub, Int.reduceMul, Int.reduceNeg, Int.reduceOfNat, Int.reduceNatCast, Nat.reducePow]
@[go_sem] theorem fa78_1 (x : Leaf) : En.fieldAddrA 78 (.pp (e_Leaf x)) 1 = some (.pp (.sl 32 (List.map (PD.iarr .u8 32) x.Chains))) := by
  rw [fieldAddr_eq En 78 _ 1 (fun d h => by cases h; exact ⟨_, _, rfl⟩)]; simp only [go_sem, reduceIte, reduceCtorEq, Nat.reduceAdd, Nat.reduceSub, Nat.reduceMul, Nat.reduceEqDiff, Nat.reduceLT, Nat.reduceLeDiff, Nat.reduceBEq, Nat.reduceBNe, Int.reduceToNat, Int.reduceLT, Int.reduceLE, Int.reduceEq, Int.reduceBEq, Int.reduceBNe, Int.reduceAdd, Int.reduceSub, Int.reduceMul, Int.reduceNeg, Int.reduceOfNat, Int.reduceNatCast, Nat.reducePow]
@[go_sem] theorem fa78_2 (x : Leaf) : En.fieldAddrA 78 (.pp (e_Leaf x)) 2 = some (.pp (.sl 32 (List.map (PD.iarr .u8 32) x.Path))) := by
  rw [fieldAddr_eq En 78 _ 2 (fun d h => by cases h; exact ⟨_, _, rfl⟩)]; simp only [go_sem, reduceIte, reduceCtorEq, Nat.reduceAdd, Nat.reduceSub, Nat.reduceMul, Nat.reduceEqDiff, Nat.reduceLT, Nat.reduceLeDiff, Nat.reduceBEq, Nat.reduceBNe, Int.reduceToNat, Int.reduceLT, Int.reduceLE, Int.reduceEq, Int.reduceBEq, Int.reduceBNe, Int.reduceAdd, Int.reduceSub, Int.reduceMul, Int.reduceNeg, Int.reduceOfNat, Int.reduceNatCast, Nat.reducePow]
@[go_sem] theorem eql4 (x y : Bool) : En.binA .eql 4 (.p (.bool x)) (.p (.bool y)) = some (.p (.bool ((x == y)))) := eql_bool En ty4 x y
@[go_sem] theorem neq4 (x y : Bool) : En.binA .neq 4 (.p (.bool x)) (.p (.bool y)) = some (.p (.bool (!(x == y)))) := neq_bool En ty4 x y
@[go_sem] theorem eql44 (x y : List Int) : En.binA .eql 44 (.p (.iarr .u8 32 x)) (.p (.iarr .u8 32 y)) = some (.p (.bool ((x == y)))) := eql_iarr En ty44 ty5 x y
@[go_sem] theorem neq44 (x y : List Int) : En.binA .neq 44 (.p (.iarr .u8 32 x)) (.p (.iarr .u8 32 y)) = some (.p (.bool (!(x == y)))) := neq_iarr En ty44 ty5 x y
@[go_sem] theorem eql97 (x y : List Int) : En.binA .eql 97 (.p (.iarr .u32 8 x)) (.p (.iarr .u32 8 y)) = some (.p (.bool ((x == y)))) := eql_iarr En ty97 ty96 x y
@[go_sem] theorem neq97 (x y : List Int) : En.binA .neq 97 (.p (.iarr .u32 8 x)) (.p (.iarr .u32 8 y)) = some (.p (.bool (!(x == y)))) := neq_iarr En ty97 ty96 x y
@[go_sem] theorem eql98 (x y : List Int) : En.binA .eql 98 (.p (.iarr .u32 8 x)) (.p (.iarr .u32 8 y)) = some (.p (.bool ((x == y)))) := eql_iarr En ty98 ty96 x y
@[go_sem] theorem neq98 (x y : List Int) : En.binA .neq 98 (.p (.iarr .u32 8 x)) (.p (.iarr .u32 8 y)) = some (.p (.bool (!(x == y)))) := neq_iarr En ty98 ty96 x y
@[go_sem] theorem eql105 (x y : List Int) : En.binA .eql 105 (.p (.iarr .u32 64 x)) (.p (.iarr .u32 64 y)) = some (.p (.bool ((x == y)))) := eql_iarr En ty105 ty96 x y
@[go_sem] theorem neq105 (x y : List Int) : En.binA .neq 105 (.p (.iarr .u32 64 x)) (.p (.iarr .u32 64 y)) = some (.p (.bool (!(x == y)))) := neq_iarr En ty105 ty96 x y
theorem has74 (x : Place) : En.has 10 74 (e_Place x) = true := by
  rw [e_Place, has_struct En 9 ty74]; simp only [goS_cons, goS_nil, has_int En 8 ty3]; rfl
@[go_sem] theorem lk72_0 (H : Heap) (i : Nat) (k : Place) (ok : Bool) : En.lookupA H 72 (.map i) (.p (e_Place k)) ok = lkO 74 4 (e_Place k) (.p (.bool false)) ok H[i]? := lookup_rule ty72 ty4 (has74 k) (eqvS_Place k) i ok
@[go_sem] theorem mu72_0 (H : Heap) (i : Nat) (k : Place) (v : Bool) : En.mapPutA H 72 (.map i) (.p (e_Place k)) (.p (.bool v)) = muO H i 74 4 (e_Place k) (.bool v) H[i]? := mapPut_rule ty72 (has74 k) (eqvS_Place k) (has_bool En 9 ty4 _) i
@[go_sem] theorem lk72_1 (H : Heap) (i : Nat) (x0 : Int) (x1 : Int) (ok : Bool) : En.lookupA H 72 (.map i) (.p (.agg [1, 1] [(.int .i64 x0), (.int .i64 x1)])) ok = lkO 74 4 (e_Place (Place.mk x0 x1)) (.p (.bool false)) ok H[i]? := lookup_rule ty72 ty4 (has74 (Place.mk x0 x1)) (eqvS_Place (Place.mk x0 x1)) i ok
@[go_sem] theorem mu72_1 (H : Heap) (i : Nat) (x0 : Int) (x1 : Int) (v : Bool) : En.mapPutA H 72 (.map i) (.p (.agg [1, 1] [(.int .i64 x0), (.int .i64 x1)])) (.p (.bool v)) = muO H i 74 4 (e_Place (Place.mk x0 x1)) (.bool v) H[i]? := mapPut_rule ty72 (has74 (Place.mk x0 x1)) (eqvS_Place (Place.mk x0 x1)) (has_bool En 9 ty4 _) i
@[go_sem] theorem lk72m (k : Place) (l : List (Place × Bool)) : lkO 74 4 (e_Place k) (.p (.bool false)) false (some (.map 74 4 (List.map (fun y => (e_Place y.1, PD.bool y.2)) l))) = some (.p (PD.bool (Option.getD (mget b_Place l k) false))) := lkO_map e_Place PD.bool b_Place eqv_Place 74 4 k false l
@[go_sem] theorem lk72n (k : Place) (l : List (Place × Bool)) : lkO 74 4 (e_Place k) (.p (.bool false)) true (some (.map 74 4 (List.map (fun y => (e_Place y.1, PD.bool y.2)) l))) = some (.tup [.p (PD.bool (Option.getD (mget b_Place l k) false)), .p (.bool (Option.isSome (mget b_Place l k)))]) := lkO_map2 e_Place PD.bool b_Place eqv_Place 74 4 k false l
@[go_sem] theorem mu72m (H : Heap) (i : Nat) (k : Place) (v : Bool) (l : List (Place × Bool)) : muO H i 74 4 (e_Place k) (.bool v) (some (.map 74 4 (List.map (fun y => (e_Place y.1, PD.bool y.2)) l))) = some (H.set i (.map 74 4 (List.map (fun y => (e_Place y.1, PD.bool y.2)) (mput b_Place l k v)))) := muO_map e_Place PD.bool b_Place eqv_Place H i 74 4 k v l
@[go_sem] theorem cv3_5 (H : Heap) (k : IntKind) (n : Int) : En.convV H 3 5 (.p (.int k n)) = some (.p (.int .u8 ((IntKind.u8).wrap n)), []) := convV_int En H 3 5 _ _ _ _ _ _ k _ _ n ty3 ty5
@[go_sem] theorem cv3_101 (H : Heap) (k : IntKind) (n : Int) : En.convV H 3 101 (.p (.int k n)) = some (.p (.int .u64 ((IntKind.u64).wrap n)), []) := convV_int En H 3 101 _ _ _ _ _ _ k _ _ n ty3 ty101
@[go_sem] theorem cv3_108 (H : Heap) (k : IntKind) (n : Int) : En.convV H 3 108 (.p (.int k n)) = some (.p (.int .u64 ((IntKind.u64).wrap n)), []) := convV_int En H 3 108 _ _ _ _ _ _ k _ _ n ty3 ty108
@[go_sem] theorem cv5_96 (H : Heap) (k : IntKind) (n : Int) : En.convV H 5 96 (.p (.int k n)) = some (.p (.int .u32 ((IntKind.u32).wrap n)), []) := convV_int En H 5 96 _ _ _ _ _ _ k _ _ n ty5 ty96
@[go_sem] theorem cv9_91 (H : Heap) (s : ByteArray) : En.convV H 9 91 (.p (.str s)) = some (.own H.length 0, [.row 1 (List.map (PD.int .u8) (strInts s)) false]) := convV_str En H 9 91 _ _ _ _ _ _ _ _ _ s ty9 ty91 ty5
@[go_sem] theorem cv96_5 (H : Heap) (k : IntKind) (n : Int) : En.convV H 96 5 (.p (.int k n)) = some (.p (.int .u8 ((IntKind.u8).wrap n)), []) := convV_int En H 96 5 _ _ _ _ _ _ k _ _ n ty96 ty5
@[go_sem] theorem cv96_101 (H : Heap) (k : IntKind) (n : Int) : En.convV H 96 101 (.p (.int k n)) = some (.p (.int .u64 ((IntKind.u64).wrap n)), []) := convV_int En H 96 101 _ _ _ _ _ _ k _ _ n ty96 ty101
@[go_sem] theorem cv101_5 (H : Heap) (k : IntKind) (n : Int) : En.convV H 101 5 (.p (.int k n)) = some (.p (.int .u8 ((IntKind.u8).wrap n)), []) := convV_int En H 101 5 _ _ _ _ _ _ k _ _ n ty101 ty5
@[reducible] def A3 : Ann := (.s .o (.s (.s .o (.s (.s .o .o) .o)) (.s (.s .o (.s (.s .o .o) .o)) (.s .o (.s .o (.s .o (.s .o (.s .o (.s .o (.s .o .o))))))))))
@[reducible] noncomputable def B3 : {c : Go.Code // Tryd.f3.body = some c} := ⟨_, by simp only [Tryd.f3, List.append_eq, List.cons_append, List.nil_append]; rfl⟩
theorem fn3 : En.fn 3 = some (Tryd.f3, A3) := by kernel_rfl
theorem c3 (m : Nat) (x0 x1 x2 x3 : AV) (H : Heap) : En.call (m + 1) (.f 3) [x0, x1, x2, x3] H = @X ⟨En, En.call m, 3, 104, H.length⟩ ⟨(B3.1, A3, [])⟩ ⟨[x0, x1, x2, x3, .unk, .unk, .unk, .unk, .unk, .unk, .unk, .unk, .unk, .unk, .unk, .unk, .unk, .unk, .unk, .unk, .unk, .unk, .unk, .unk, .unk, .unk, .unk, .unk, .unk, .unk, .unk, .unk, .unk, .unk, .unk, .unk, .unk, .unk, .unk, .unk, .unk, .unk, .unk, .unk, .unk, .unk, .unk, .unk, .unk, .unk, .unk, .unk, .unk, .unk, .unk, .unk, .unk, .unk, .unk, .unk, .unk, .unk, .unk, .unk, .unk, .unk, .unk, .unk, .unk, .unk, .unk, .unk, .unk, .unk, .unk, .unk, .unk, .unk, .unk, .unk, .unk, .unk, .unk, .unk, .unk, .unk, .unk, .unk, .unk, .unk, .unk, .unk, .unk, .unk, .unk, .unk, .unk, .unk, .unk, .unk, .unk, .unk, .unk, .unk], H⟩ _ ⟨endF En 3 H.length [.tmp 8]⟩ :=
  call_X En m 3 [x0, x1, x2, x3] H Tryd.f3 A3 B3.1 104 [.tmp 8] fn3 B3.2 rfl rfl (Nat.le_of_ble_eq_true rfl)
@[go_sem] theorem fz3 : En.frz 3 = true := by kernel_rfl
@[reducible] def A4 : Ann := (.s .o (.s (.s .o (.s (.s .o .o) .o)) (.s (.j [3, 2, 1, 4, 29] .o (.s (.s .o .o) .o)) (.s (.s .o (.i (.l [30, 31, 32, 4, 1, 2, 3] [3, 2, 1, 4, 8] (.s .o (.s (.s .o .o) (.s (.i (.s .o (.s .o (.s (.s .o .o) .o)))) .o)))))) (.s .o (.s .o (.s .o .o)))))))
@[reducible] noncomputable def B4 : {c : Go.Code // Tryd.f4.body = some c} := ⟨_, rfl⟩
theorem fn4 : En.fn 4 = some (Tryd.f4, A4) := by kernel_rfl
theorem c4 (m : Nat) (x0 x1 x2 x3 : AV) (H : Heap) : En.call (m + 1) (.f 4) [x0, x1, x2, x3] H = @X ⟨En, En.call m, 4, 64, H.length⟩ ⟨(B4.1, A4, [])⟩ ⟨[x0, x1, x2, x3, .unk, .unk, .unk, .unk, .unk, .unk, .unk, .unk, .unk, .unk, .unk, .unk, .unk, .unk, .unk, .unk, .unk, .unk, .unk, .unk, .unk, .unk, .unk, .unk, .unk, .unk, .unk, .unk, .unk, .unk, .unk, .unk, .unk, .unk, .unk, .unk, .unk, .unk, .unk, .unk, .unk, .unk, .unk, .unk, .unk, .unk, .unk, .unk, .unk, .unk, .unk, .unk, .unk, .unk, .unk, .unk, .unk, .unk, .unk, .unk], H⟩ _ ⟨endF En 4 H.length [.tmp 8]⟩ :=
  call_X En m 4 [x0, x1, x2, x3] H Tryd.f4 A4 B4.1 64 [.tmp 8] fn4 B4.2 rfl rfl (Nat.le_of_ble_eq_true rfl)
@[go_sem] theorem fz4 : En.frz 4 = true := by kernel_rfl
@[reducible] def A7 : Ann := (.s .o (.s .o (.s .o (.s .o (.s .o (.s .o (.s .o (.s .o (.s .o (.s .o (.s .o (.s .o (.s .o (.s .o (.s .o (.s .o (.s .o (.s (.j [9, 24, 28, 22, 21, 20, 1, 178] .o (.s (.s .o .o) .o)) (.s .o .o)))))))))))))))))))
@[reducible] noncomputable def B7 : {c : Go.Code // Tryd.f7.body = some c} := ⟨_, by simp only [Tryd.f7, List.append_eq, List.cons_append, List.nil_append]; rfl⟩
theorem fn7 : En.fn 7 = some (Tryd.f7, A7) := by kernel_rfl
theorem c7 (m : Nat) (H : Heap) : En.call (m + 1) (.f 7) [] H = @X ⟨En, En.call m, 7, 255, H.length⟩ ⟨(B7.1, A7, [])⟩ ⟨[.unk, .unk, .unk, .unk, .unk, .unk, .unk, .unk, .unk, .unk, .unk, .unk, .unk, .unk, .unk, .unk, .unk, .unk, .unk, .unk, .unk, .unk, .unk, .unk, .unk, .unk, .unk, .unk, .unk, .unk, .unk, .unk, .unk, .unk, .unk, .unk, .unk, .unk, .unk, .unk, .unk, .unk, .unk, .unk, .unk, .unk, .unk, .unk, .unk, .unk, .unk, .unk, .unk, .unk, .unk, .unk, .unk, .unk, .unk, .unk, .unk, .unk, .unk, .unk, .unk, .unk, .unk, .unk, .unk, .unk, .unk, .unk, .unk, .unk, .unk, .unk, .unk, .unk, .unk, .unk, .unk, .unk, .unk, .unk, .unk, .unk, .unk, .unk, .unk, .unk, .unk, .unk, .unk, .unk, .unk, .unk, .unk, .unk, .unk, .unk, .unk, .unk, .unk, .unk, .unk, .unk, .unk, .unk, .unk, .unk, .unk, .unk, .unk, .unk, .unk, .unk, .unk, .unk, .unk, .unk, .unk, .unk, .unk, .unk, .unk, .unk, .unk, .unk, .unk, .unk, .unk, .unk, .unk, .unk, .unk, .unk, .unk, .unk, .unk, .unk, .unk, .unk, .unk, .unk, .unk, .unk, .unk, .unk, .unk, .unk, .unk, .unk, .unk, .unk, .unk, .unk, .unk, .unk, .unk, .unk, .unk, .unk, .unk, .unk, .unk, .unk, .unk, .unk, .unk, .unk, .unk, .unk, .unk, .unk, .unk, .unk, .unk, .unk, .unk, .unk, .unk, .unk, .unk, .unk, .unk, .unk, .unk, .unk, .unk, .unk, .unk, .unk, .unk, .unk, .unk, .unk, .unk, .unk, .unk, .unk, .unk, .unk, .unk, .unk, .unk, .unk, .unk, .unk, .unk, .unk, .unk, .unk, .unk, .unk, .unk, .unk, .unk, .unk, .unk, .unk, .unk, .unk, .unk, .unk, .unk, .unk, .unk, .unk, .unk, .unk, .unk, .unk, .unk, .unk, .unk, .unk, .unk, .unk, .unk, .unk, .unk, .unk, .unk, .unk, .unk, .unk, .unk, .unk, .unk, .unk, .unk, .unk, .unk, .unk, .unk], H⟩ _ ⟨endF En 7 H.length [.tmp 0]⟩ :=
  call_X En m 7 [] H Tryd.f7 A7 B7.1 255 [.tmp 0] fn7 B7.2 rfl rfl (Nat.le_of_ble_eq_true rfl)
@[go_sem] theorem fz7 : En.frz 7 = true := by kernel_rfl
@[reducible] def A8 : Ann := (.s .o (.s (.s .o (.i (.l [3, 1] [1, 2] (.s (.s .o (.s .o .o)) (.s (.i (.j [1, 3, 29] .o (.s (.s .o .o) .o))) .o))))) (.s .o .o)))
@[reducible] noncomputable def B8 : {c : Go.Code // Tryd.f8.body = some c} := ⟨_, rfl⟩
theorem fn8 : En.fn 8 = some (Tryd.f8, A8) := by kernel_rfl
theorem c8 (m : Nat) (x0 : AV) (H : Heap) : En.call (m + 1) (.f 8) [x0] H = @X ⟨En, En.call m, 8, 34, H.length⟩ ⟨(B8.1, A8, [])⟩ ⟨[x0, .unk, .unk, .unk, .unk, .unk, .unk, .unk, .unk, .unk, .unk, .unk, .unk, .unk, .unk, .unk, .unk, .unk, .unk, .unk, .unk, .unk, .unk, .unk, .unk, .unk, .unk, .unk, .unk, .unk, .unk, .unk, .unk, .unk], H⟩ _ ⟨endF En 8 H.length [.tmp 2]⟩ :=
  call_X En m 8 [x0] H Tryd.f8 A8 B8.1 34 [.tmp 2] fn8 B8.2 rfl rfl (Nat.le_of_ble_eq_true rfl)
@[go_sem] theorem fz8 : En.frz 8 = true := by kernel_rfl
@[reducible] def A9 : Ann := (.s .o (.s (.s .o (.s (.s .o .o) .o)) (.s .o .o)))
@[reducible] noncomputable def B9 : {c : Go.Code // Tryd.f9.body = some c} := ⟨_, rfl⟩
theorem fn9 : En.fn 9 = some (Tryd.f9, A9) := by kernel_rfl
theorem c9 (m : Nat) (x0 : AV) (H : Heap) : En.call (m + 1) (.f 9) [x0] H = @X ⟨En, En.call m, 9, 10, H.length⟩ ⟨(B9.1, A9, [])⟩ ⟨[x0, .unk, .unk, .unk, .unk, .unk, .unk, .unk, .unk, .unk], H⟩ _ ⟨endF En 9 H.length [.cell 2 24, .tmp 3]⟩ :=
  call_X En m 9 [x0] H Tryd.f9 A9 B9.1 10 [.cell 2 24, .tmp 3] fn9 B9.2 rfl rfl (Nat.le_of_ble_eq_true rfl)
@[go_sem] theorem fz9 : En.frz 9 = true := by kernel_rfl
@[reducible] def A10 : Ann := (.s .o (.s (.s .o (.s (.s .o .o) .o)) (.s .o .o)))
@[reducible] noncomputable def B10 : {c : Go.Code // Tryd.f10.body = some c} := ⟨_, rfl⟩
theorem fn10 : En.fn 10 = some (Tryd.f10, A10) := by kernel_rfl
theorem c10 (m : Nat) (x0 : AV) (H : Heap) : En.call (m + 1) (.f 10) [x0] H = @X ⟨En, En.call m, 10, 10, H.length⟩ ⟨(B10.1, A10, [])⟩ ⟨[x0, .unk, .unk, .unk, .unk, .unk, .unk, .unk, .unk, .unk], H⟩ _ ⟨endF En 10 H.length [.cell 2 24, .tmp 3]⟩ :=
  call_X En m 10 [x0] H Tryd.f10 A10 B10.1 10 [.cell 2 24, .tmp 3] fn10 B10.2 rfl rfl (Nat.le_of_ble_eq_true rfl)
@[go_sem] theorem fz10 : En.frz 10 = true := by kernel_rfl
@[reducible] def A11 : Ann := (.s .o (.s .o (.s (.s .o (.i (.l [17, 2, 18, 19, 4, 5] [5, 4] (.s .o (.s (.s .o .o) (.s (.i (.s .o (.s .o (.s .o (.s (.j [18, 2, 17, 19, 8, 5, 4, 9, 37] .o (.s .o .o)) (.s .o (.s (.s .o (.i (.l [45, 46, 4, 11, 5, 8, 19, 17, 2, 18] [18, 2, 17, 19, 8, 5, 11, 4] (.s .o (.s (.s .o .o) (.s (.i (.s .o .o)) .o)))))) .o))))))) .o)))))) (.s .o .o))))
@[reducible] noncomputable def B11 : {c : Go.Code // Tryd.f11.body = some c} := ⟨_, by simp only [Tryd.f11, List.append_eq, List.cons_append, List.nil_append]; rfl⟩
theorem fn11 : En.fn 11 = some (Tryd.f11, A11) := by kernel_rfl
theorem c11 (m : Nat) (x0 x1 : AV) (H : Heap) : En.call (m + 1) (.f 11) [x0, x1] H = @X ⟨En, En.call m, 11, 67, H.length⟩ ⟨(B11.1, A11, [])⟩ ⟨[x0, x1, .unk, .unk, .unk, .unk, .unk, .unk, .unk, .unk, .unk, .unk, .unk, .unk, .unk, .unk, .unk, .unk, .unk, .unk, .unk, .unk, .unk, .unk, .unk, .unk, .unk, .unk, .unk, .unk, .unk, .unk, .unk, .unk, .unk, .unk, .unk, .unk, .unk, .unk, .unk, .unk, .unk, .unk, .unk, .unk, .unk, .unk, .unk, .unk, .unk, .unk, .unk, .unk, .unk, .unk, .unk, .unk, .unk, .unk, .unk, .unk, .unk, .unk, .unk, .unk, .unk], H⟩ _ ⟨endF En 11 H.length [.tmp 4, .tmp 5]⟩ :=
  call_X En m 11 [x0, x1] H Tryd.f11 A11 B11.1 67 [.tmp 4, .tmp 5] fn11 B11.2 rfl rfl (Nat.le_of_ble_eq_true rfl)
@[go_sem] theorem fz11 : En.frz 11 = true := by kernel_rfl
@[reducible] def A12 : Ann := (.s .o (.s .o (.s .o (.s (.s .o (.i (.l [2, 1, 8, 6, 7] [7, 6] (.s (.j [7, 6, 8, 2, 1, 25] .o (.s .o .o)) (.s (.i (.s .o (.j [1, 2, 8, 7, 6, 9, 10] .o (.s (.s .o (.i (.l [11, 10, 9, 6, 7, 8, 2, 1] [1, 2, 8, 7, 6, 9, 10] (.s (.s .o (.s .o .o)) (.s (.i .o) .o))))) (.s (.s .o (.s .o .o)) (.s .o (.s (.s .o (.i (.l [13, 6, 12, 7, 8, 2, 1] [1, 2, 8, 7, 12, 6] (.s (.s .o (.s .o .o)) (.s (.i .o) .o))))) (.s .o .o)))))))) .o))))) (.s .o .o)))))
@[reducible] noncomputable def B12 : {c : Go.Code // Tryd.f12.body = some c} := ⟨_, by simp only [Tryd.f12, List.append_eq, List.cons_append, List.nil_append]; rfl⟩
theorem fn12 : En.fn 12 = some (Tryd.f12, A12) := by kernel_rfl
theorem c12 (m : Nat) (x0 x1 : AV) (H : Heap) : En.call (m + 1) (.f 12) [x0, x1] H = @X ⟨En, En.call m, 12, 102, H.length⟩ ⟨(B12.1, A12, [])⟩ ⟨[x0, x1, .unk, .unk, .unk, .unk, .unk, .unk, .unk, .unk, .unk, .unk, .unk, .unk, .unk, .unk, .unk, .unk, .unk, .unk, .unk, .unk, .unk, .unk, .unk, .unk, .unk, .unk, .unk, .unk, .unk, .unk, .unk, .unk, .unk, .unk, .unk, .unk, .unk, .unk, .unk, .unk, .unk, .unk, .unk, .unk, .unk, .unk, .unk, .unk, .unk, .unk, .unk, .unk, .unk, .unk, .unk, .unk, .unk, .unk, .unk, .unk, .unk, .unk, .unk, .unk, .unk, .unk, .unk, .unk, .unk, .unk, .unk, .unk, .unk, .unk, .unk, .unk, .unk, .unk, .unk, .unk, .unk, .unk, .unk, .unk, .unk, .unk, .unk, .unk, .unk, .unk, .unk, .unk, .unk, .unk, .unk, .unk, .unk, .unk, .unk, .unk], H⟩ _ ⟨endF En 12 H.length [.tmp 4, .tmp 5]⟩ :=
  call_X En m 12 [x0, x1] H Tryd.f12 A12 B12.1 102 [.tmp 4, .tmp 5] fn12 B12.2 rfl rfl (Nat.le_of_ble_eq_true rfl)
@[go_sem] theorem fz12 : En.frz 12 = true := by kernel_rfl
@[reducible] def A13 : Ann := (.s .o (.s (.s .o (.s .o (.s (.s .o .o) .o))) (.s (.s .o (.s (.s .o .o) .o)) (.s (.l [4] [] .o) .o))))
@[reducible] noncomputable def B13 : {c : Go.Code // Tryd.f13.body = some c} := ⟨_, rfl⟩
theorem fn13 : En.fn 13 = some (Tryd.f13, A13) := by kernel_rfl
theorem c13 (m : Nat) (x0 x1 : AV) (H : Heap) : En.call (m + 1) (.f 13) [x0, x1] H = @X ⟨En, En.call m, 13, 22, H.length⟩ ⟨(B13.1, A13, [])⟩ ⟨[x0, x1, .unk, .unk, .unk, .unk, .unk, .unk, .unk, .unk, .unk, .unk, .unk, .unk, .unk, .unk, .unk, .unk, .unk, .unk, .unk, .unk], H⟩ _ ⟨endF En 13 H.length [.cell 4 24, .tmp 5]⟩ :=
  call_X En m 13 [x0, x1] H Tryd.f13 A13 B13.1 22 [.cell 4 24, .tmp 5] fn13 B13.2 rfl rfl (Nat.le_of_ble_eq_true rfl)
@[go_sem] theorem fz13 : En.frz 13 = true := by kernel_rfl
@[reducible] def A14 : Ann := (.s .o (.s .o (.s (.s .o (.s (.s .o .o) .o)) (.s (.s .o (.s (.s .o .o) .o)) (.s .o (.s .o (.s (.s .o (.i (.l [1, 8, 7, 4] [4, 7] (.s (.s .o (.s .o .o)) (.s (.i (.j [4, 7, 1, 8, 49] .o (.s .o .o))) .o))))) (.s .o .o))))))))
@[reducible] noncomputable def B14 : {c : Go.Code // Tryd.f14.body = some c} := ⟨_, rfl⟩
theorem fn14 : En.fn 14 = some (Tryd.f14, A14) := by kernel_rfl
theorem c14 (m : Nat) (x0 x1 : AV) (H : Heap) : En.call (m + 1) (.f 14) [x0, x1] H = @X ⟨En, En.call m, 14, 56, H.length⟩ ⟨(B14.1, A14, [])⟩ ⟨[x0, x1, .unk, .unk, .unk, .unk, .unk, .unk, .unk, .unk, .unk, .unk, .unk, .unk, .unk, .unk, .unk, .unk, .unk, .unk, .unk, .unk, .unk, .unk, .unk, .unk, .unk, .unk, .unk, .unk, .unk, .unk, .unk, .unk, .unk, .unk, .unk, .unk, .unk, .unk, .unk, .unk, .unk, .unk, .unk, .unk, .unk, .unk, .unk, .unk, .unk, .unk, .unk, .unk, .unk, .unk], H⟩ _ ⟨endF En 14 H.length [.cell 4 24, .tmp 5]⟩ :=
  call_X En m 14 [x0, x1] H Tryd.f14 A14 B14.1 56 [.cell 4 24, .tmp 5] fn14 B14.2 rfl rfl (Nat.le_of_ble_eq_true rfl)
@[go_sem] theorem fz14 : En.frz 14 = true := by kernel_rfl
@[reducible] def A15 : Ann := (.s .o (.s (.j [3, 2, 26] .o (.s (.s .o .o) .o)) (.s (.s .o (.i (.l [2, 3, 5] [4] (.s (.s .o (.s .o .o)) (.s (.i (.s .o (.s (.s .o .o) .o))) .o))))) (.s .o .o))))
@[reducible] noncomputable def B15 : {c : Go.Code // Tryd.f15.body = some c} := ⟨_, rfl⟩
theorem fn15 : En.fn 15 = some (Tryd.f15, A15) := by kernel_rfl
theorem c15 (m : Nat) (x0 x1 : AV) (H : Heap) : En.call (m + 1) (.f 15) [x0, x1] H = @X ⟨En, En.call m, 15, 46, H.length⟩ ⟨(B15.1, A15, [])⟩ ⟨[x0, x1, .unk, .unk, .unk, .unk, .unk, .unk, .unk, .unk, .unk, .unk, .unk, .unk, .unk, .unk, .unk, .unk, .unk, .unk, .unk, .unk, .unk, .unk, .unk, .unk, .unk, .unk, .unk, .unk, .unk, .unk, .unk, .unk, .unk, .unk, .unk, .unk, .unk, .unk, .unk, .unk, .unk, .unk, .unk, .unk], H⟩ _ ⟨endF En 15 H.length [.tmp 4]⟩ :=
  call_X En m 15 [x0, x1] H Tryd.f15 A15 B15.1 46 [.tmp 4] fn15 B15.2 rfl rfl (Nat.le_of_ble_eq_true rfl)
@[go_sem] theorem fz15 : En.frz 15 = true := by kernel_rfl
@[reducible] def A16 : Ann := (.s .o (.s .o (.s .o (.s (.j [30] .o (.s (.s .o .o) .o)) (.s .o .o)))))
@[reducible] noncomputable def B16 : {c : Go.Code // Tryd.f16.body = some c} := ⟨_, rfl⟩
theorem fn16 : En.fn 16 = some (Tryd.f16, A16) := by kernel_rfl
theorem c16 (m : Nat) (x0 : AV) (H : Heap) : En.call (m + 1) (.f 16) [x0] H = @X ⟨En, En.call m, 16, 31, H.length⟩ ⟨(B16.1, A16, [])⟩ ⟨[x0, .unk, .unk, .unk, .unk, .unk, .unk, .unk, .unk, .unk, .unk, .unk, .unk, .unk, .unk, .unk, .unk, .unk, .unk, .unk, .unk, .unk, .unk, .unk, .unk, .unk, .unk, .unk, .unk, .unk, .unk], H⟩ _ ⟨endF En 16 H.length [.tmp 2]⟩ :=
  call_X En m 16 [x0] H Tryd.f16 A16 B16.1 31 [.tmp 2] fn16 B16.2 rfl rfl (Nat.le_of_ble_eq_true rfl)
@[go_sem] theorem fz16 : En.frz 16 = true := by kernel_rfl
@[reducible] def A17 : Ann := (.s .o (.s (.j [1, 19] .o (.s (.s .o .o) .o)) (.s (.s .o (.i (.l [1, 3] [2] (.s (.s .o (.s .o .o)) (.s (.i (.s .o (.s (.s .o .o) .o))) .o))))) (.s .o .o))))
@[reducible] noncomputable def B17 : {c : Go.Code // Tryd.f17.body = some c} := ⟨_, rfl⟩
theorem fn17 : En.fn 17 = some (Tryd.f17, A17) := by kernel_rfl
theorem c17 (m : Nat) (x0 : AV) (H : Heap) : En.call (m + 1) (.f 17) [x0] H = @X ⟨En, En.call m, 17, 31, H.length⟩ ⟨(B17.1, A17, [])⟩ ⟨[x0, .unk, .unk, .unk, .unk, .unk, .unk, .unk, .unk, .unk, .unk, .unk, .unk, .unk, .unk, .unk, .unk, .unk, .unk, .unk, .unk, .unk, .unk, .unk, .unk, .unk, .unk, .unk, .unk, .unk, .unk], H⟩ _ ⟨endF En 17 H.length [.tmp 2]⟩ :=
  call_X En m 17 [x0] H Tryd.f17 A17 B17.1 31 [.tmp 2] fn17 B17.2 rfl rfl (Nat.le_of_ble_eq_true rfl)
@[go_sem] theorem fz17 : En.frz 17 = true := by kernel_rfl
@[reducible] def A18 : Ann := (.s .o (.s (.s .o (.s (.s .o .o) .o)) (.s (.s .o (.i (.l [0, 1, 5] [4] (.s (.s .o (.s .o .o)) (.s (.i (.j [1, 0, 5, 55] .o (.s (.s .o .o) .o))) .o))))) (.s .o .o))))
@[reducible] noncomputable def B18 : {c : Go.Code // Tryd.f18.body = some c} := ⟨_, rfl⟩
theorem fn18 : En.fn 18 = some (Tryd.f18, A18) := by kernel_rfl
theorem c18 (m : Nat) (x0 x1 : AV) (H : Heap) : En.call (m + 1) (.f 18) [x0, x1] H = @X ⟨En, En.call m, 18, 56, H.length⟩ ⟨(B18.1, A18, [])⟩ ⟨[x0, x1, .unk, .unk, .unk, .unk, .unk, .unk, .unk, .unk, .unk, .unk, .unk, .unk, .unk, .unk, .unk, .unk, .unk, .unk, .unk, .unk, .unk, .unk, .unk, .unk, .unk, .unk, .unk, .unk, .unk, .unk, .unk, .unk, .unk, .unk, .unk, .unk, .unk, .unk, .unk, .unk, .unk, .unk, .unk, .unk, .unk, .unk, .unk, .unk, .unk, .unk, .unk, .unk, .unk, .unk], H⟩ _ ⟨endF En 18 H.length [.tmp 4]⟩ :=
  call_X En m 18 [x0, x1] H Tryd.f18 A18 B18.1 56 [.tmp 4] fn18 B18.2 rfl rfl (Nat.le_of_ble_eq_true rfl)
@[go_sem] theorem fz18 : En.frz 18 = true := by kernel_rfl
@[reducible] def A19 : Ann := (.s .o (.s .o .o))
@[reducible] noncomputable def B19 : {c : Go.Code // Tryd.f19.body = some c} := ⟨_, rfl⟩
theorem fn19 : En.fn 19 = some (Tryd.f19, A19) := by kernel_rfl
theorem c19 (m : Nat) (x0 x1 : AV) (H : Heap) : En.call (m + 1) (.f 19) [x0, x1] H = @X ⟨En, En.call m, 19, 8, H.length⟩ ⟨(B19.1, A19, [])⟩ ⟨[x0, x1, .unk, .unk, .unk, .unk, .unk, .unk], H⟩ _ ⟨endF En 19 H.length [.tmp 4]⟩ :=
  call_X En m 19 [x0, x1] H Tryd.f19 A19 B19.1 8 [.tmp 4] fn19 B19.2 rfl rfl (Nat.le_of_ble_eq_true rfl)
@[go_sem] theorem fz19 : En.frz 19 = true := by kernel_rfl
@[reducible] def A20 : Ann := (.s .o (.s .o .o))
@[reducible] noncomputable def B20 : {c : Go.Code // Tryd.f20.body = some c} := ⟨_, rfl⟩
theorem fn20 : En.fn 20 = some (Tryd.f20, A20) := by kernel_rfl
theorem c20 (m : Nat) (x0 x1 : AV) (H : Heap) : En.call (m + 1) (.f 20) [x0, x1] H = @X ⟨En, En.call m, 20, 9, H.length⟩ ⟨(B20.1, A20, [])⟩ ⟨[x0, x1, .unk, .unk, .unk, .unk, .unk, .unk, .unk], H⟩ _ ⟨endF En 20 H.length [.tmp 4]⟩ :=
  call_X En m 20 [x0, x1] H Tryd.f20 A20 B20.1 9 [.tmp 4] fn20 B20.2 rfl rfl (Nat.le_of_ble_eq_true rfl)
@[go_sem] theorem fz20 : En.frz 20 = true := by kernel_rfl
@[reducible] def A21 : Ann := (.s .o (.s .o (.s (.s .o (.i (.l [2, 1, 6, 5] [5] (.s (.s .o (.s .o .o)) (.s (.i (.j [5, 1, 2, 6, 31] .o (.s .o .o))) .o))))) (.s .o .o))))
@[reducible] noncomputable def B21 : {c : Go.Code // Tryd.f21.body = some c} := ⟨_, rfl⟩
theorem fn21 : En.fn 21 = some (Tryd.f21, A21) := by kernel_rfl
theorem c21 (m : Nat) (x0 x1 : AV) (H : Heap) : En.call (m + 1) (.f 21) [x0, x1] H = @X ⟨En, En.call m, 21, 35, H.length⟩ ⟨(B21.1, A21, [])⟩ ⟨[x0, x1, .unk, .unk, .unk, .unk, .unk, .unk, .unk, .unk, .unk, .unk, .unk, .unk, .unk, .unk, .unk, .unk, .unk, .unk, .unk, .unk, .unk, .unk, .unk, .unk, .unk, .unk, .unk, .unk, .unk, .unk, .unk, .unk, .unk], H⟩ _ ⟨endF En 21 H.length [.tmp 4]⟩ :=
  call_X En m 21 [x0, x1] H Tryd.f21 A21 B21.1 35 [.tmp 4] fn21 B21.2 rfl rfl (Nat.le_of_ble_eq_true rfl)
@[go_sem] theorem fz21 : En.frz 21 = true := by kernel_rfl
@[reducible] def A22 : Ann := (.s .o (.s (.s .o (.i (.l [3, 1] [1, 2] (.s (.s .o (.s .o .o)) (.s (.i (.j [1, 3, 28] .o (.s (.s .o .o) .o))) .o))))) (.s .o .o)))
@[reducible] noncomputable def B22 : {c : Go.Code // Tryd.f22.body = some c} := ⟨_, rfl⟩
theorem fn22 : En.fn 22 = some (Tryd.f22, A22) := by kernel_rfl
theorem c22 (m : Nat) (x0 : AV) (H : Heap) : En.call (m + 1) (.f 22) [x0] H = @X ⟨En, En.call m, 22, 45, H.length⟩ ⟨(B22.1, A22, [])⟩ ⟨[x0, .unk, .unk, .unk, .unk, .unk, .unk, .unk, .unk, .unk, .unk, .unk, .unk, .unk, .unk, .unk, .unk, .unk, .unk, .unk, .unk, .unk, .unk, .unk, .unk, .unk, .unk, .unk, .unk, .unk, .unk, .unk, .unk, .unk, .unk, .unk, .unk, .unk, .unk, .unk, .unk, .unk, .unk, .unk, .unk], H⟩ _ ⟨endF En 22 H.length [.tmp 2]⟩ :=
  call_X En m 22 [x0] H Tryd.f22 A22 B22.1 45 [.tmp 2] fn22 B22.2 rfl rfl (Nat.le_of_ble_eq_true rfl)
@[go_sem] theorem fz22 : En.frz 22 = true := by kernel_rfl
@[reducible] def A23 : Ann := (.s .o (.s (.s .o (.s .o (.s (.s .o .o) .o))) (.s (.s .o (.s (.s .o .o) .o)) (.s .o (.s (.s .o (.i (.l [1, 2, 3, 29, 30, 11, 8] [8, 11] (.s .o (.s (.s .o .o) (.s (.i (.s .o .o)) .o)))))) (.s (.s .o (.s .o (.s (.s .o .o) .o))) (.s .o .o)))))))
@[reducible] noncomputable def B23 : {c : Go.Code // Tryd.f23.body = some c} := ⟨_, rfl⟩
theorem fn23 : En.fn 23 = some (Tryd.f23, A23) := by kernel_rfl
theorem c23 (m : Nat) (x0 x1 x2 x3 : AV) (H : Heap) : En.call (m + 1) (.f 23) [x0, x1, x2, x3] H = @X ⟨En, En.call m, 23, 56, H.length⟩ ⟨(B23.1, A23, [])⟩ ⟨[x0, x1, x2, x3, .unk, .unk, .unk, .unk, .unk, .unk, .unk, .unk, .unk, .unk, .unk, .unk, .unk, .unk, .unk, .unk, .unk, .unk, .unk, .unk, .unk, .unk, .unk, .unk, .unk, .unk, .unk, .unk, .unk, .unk, .unk, .unk, .unk, .unk, .unk, .unk, .unk, .unk, .unk, .unk, .unk, .unk, .unk, .unk, .unk, .unk, .unk, .unk, .unk, .unk, .unk, .unk], H⟩ _ ⟨endF En 23 H.length [.cell 8 24, .tmp 9]⟩ :=
  call_X En m 23 [x0, x1, x2, x3] H Tryd.f23 A23 B23.1 56 [.cell 8 24, .tmp 9] fn23 B23.2 rfl rfl (Nat.le_of_ble_eq_true rfl)
@[go_sem] theorem fz23 : En.frz 23 = true := by kernel_rfl
@[reducible] def A24 : Ann := (.s .o (.s (.j [8, 3, 2, 1, 4, 22] .o (.s (.s .o .o) .o)) (.s .o (.s .o (.s (.s .o (.i (.l [1, 2, 3, 11, 10, 8] [8, 10] (.s (.s .o (.s .o .o)) (.s (.i .o) .o))))) (.s .o (.s (.s .o (.s (.s .o .o) .o)) (.s .o .o))))))))
@[reducible] noncomputable def B24 : {c : Go.Code // Tryd.f24.body = some c} := ⟨_, rfl⟩
theorem fn24 : En.fn 24 = some (Tryd.f24, A24) := by kernel_rfl
theorem c24 (m : Nat) (x0 x1 x2 x3 : AV) (H : Heap) : En.call (m + 1) (.f 24) [x0, x1, x2, x3] H = @X ⟨En, En.call m, 24, 58, H.length⟩ ⟨(B24.1, A24, [])⟩ ⟨[x0, x1, x2, x3, .unk, .unk, .unk, .unk, .unk, .unk, .unk, .unk, .unk, .unk, .unk, .unk, .unk, .unk, .unk, .unk, .unk, .unk, .unk, .unk, .unk, .unk, .unk, .unk, .unk, .unk, .unk, .unk, .unk, .unk, .unk, .unk, .unk, .unk, .unk, .unk, .unk, .unk, .unk, .unk, .unk, .unk, .unk, .unk, .unk, .unk, .unk, .unk, .unk, .unk, .unk, .unk, .unk, .unk], H⟩ _ ⟨endF En 24 H.length [.cell 8 24, .tmp 9]⟩ :=
  call_X En m 24 [x0, x1, x2, x3] H Tryd.f24 A24 B24.1 58 [.cell 8 24, .tmp 9] fn24 B24.2 rfl rfl (Nat.le_of_ble_eq_true rfl)
@[go_sem] theorem fz24 : En.frz 24 = true := by kernel_rfl
@[reducible] def A25 : Ann := (.s .o (.s .o .o))
@[reducible] noncomputable def B25 : {c : Go.Code // Tryd.f25.body = some c} := ⟨_, rfl⟩
theorem fn25 : En.fn 25 = some (Tryd.f25, A25) := by kernel_rfl
theorem c25 (m : Nat) (x0 x1 : AV) (H : Heap) : En.call (m + 1) (.f 25) [x0, x1] H = @X ⟨En, En.call m, 25, 42, H.length⟩ ⟨(B25.1, A25, [])⟩ ⟨[x0, x1, .unk, .unk, .unk, .unk, .unk, .unk, .unk, .unk, .unk, .unk, .unk, .unk, .unk, .unk, .unk, .unk, .unk, .unk, .unk, .unk, .unk, .unk, .unk, .unk, .unk, .unk, .unk, .unk, .unk, .unk, .unk, .unk, .unk, .unk, .unk, .unk, .unk, .unk, .unk, .unk], H⟩ _ ⟨endF En 25 H.length [.tmp 4]⟩ :=
  call_X En m 25 [x0, x1] H Tryd.f25 A25 B25.1 42 [.tmp 4] fn25 B25.2 rfl rfl (Nat.le_of_ble_eq_true rfl)
@[go_sem] theorem fz25 : En.frz 25 = true := by kernel_rfl
@[reducible] def A26 : Ann := (.s .o (.s .o (.s .o .o)))
@[reducible] noncomputable def B26 : {c : Go.Code // Tryd.f26.body = some c} := ⟨_, rfl⟩
theorem fn26 : En.fn 26 = some (Tryd.f26, A26) := by kernel_rfl
theorem c26 (m : Nat) (x0 x1 x2 : AV) (H : Heap) : En.call (m + 1) (.f 26) [x0, x1, x2] H = @X ⟨En, En.call m, 26, 24, H.length⟩ ⟨(B26.1, A26, [])⟩ ⟨[x0, x1, x2, .unk, .unk, .unk, .unk, .unk, .unk, .unk, .unk, .unk, .unk, .unk, .unk, .unk, .unk, .unk, .unk, .unk, .unk, .unk, .unk, .unk], H⟩ _ ⟨endF En 26 H.length [.cell 6 48, .cell 7 53]⟩ :=
  call_X En m 26 [x0, x1, x2] H Tryd.f26 A26 B26.1 24 [.cell 6 48, .cell 7 53] fn26 B26.2 rfl rfl (Nat.le_of_ble_eq_true rfl)
@[go_sem] theorem fz26 : En.frz 26 = true := by kernel_rfl
@[reducible] def A27 : Ann := (.s .o (.s .o .o))
@[reducible] noncomputable def B27 : {c : Go.Code // Tryd.f27.body = some c} := ⟨_, rfl⟩
theorem fn27 : En.fn 27 = some (Tryd.f27, A27) := by kernel_rfl
theorem c27 (m : Nat) (x0 x1 x2 : AV) (H : Heap) : En.call (m + 1) (.f 27) [x0, x1, x2] H = @X ⟨En, En.call m, 27, 15, H.length⟩ ⟨(B27.1, A27, [])⟩ ⟨[x0, x1, x2, .unk, .unk, .unk, .unk, .unk, .unk, .unk, .unk, .unk, .unk, .unk, .unk], H⟩ _ ⟨endF En 27 H.length [.tmp 6]⟩ :=
  call_X En m 27 [x0, x1, x2] H Tryd.f27 A27 B27.1 15 [.tmp 6] fn27 B27.2 rfl rfl (Nat.le_of_ble_eq_true rfl)
@[go_sem] theorem fz27 : En.frz 27 = true := by kernel_rfl
@[reducible] def A28 : Ann := (.s .o (.s .o .o))
@[reducible] noncomputable def B28 : {c : Go.Code // Tryd.f28.body = some c} := ⟨_, rfl⟩
theorem fn28 : En.fn 28 = some (Tryd.f28, A28) := by kernel_rfl
theorem c28 (m : Nat) (x0 x1 x2 : AV) (H : Heap) : En.call (m + 1) (.f 28) [x0, x1, x2] H = @X ⟨En, En.call m, 28, 15, H.length⟩ ⟨(B28.1, A28, [])⟩ ⟨[x0, x1, x2, .unk, .unk, .unk, .unk, .unk, .unk, .unk, .unk, .unk, .unk, .unk, .unk], H⟩ _ ⟨endF En 28 H.length [.tmp 6]⟩ :=
  call_X En m 28 [x0, x1, x2] H Tryd.f28 A28 B28.1 15 [.tmp 6] fn28 B28.2 rfl rfl (Nat.le_of_ble_eq_true rfl)
@[go_sem] theorem fz28 : En.frz 28 = true := by kernel_rfl
@[reducible] def A29 : Ann := (.s .o (.s (.s .o (.i (.l [7, 1, 8, 9, 4] [4] (.s .o (.s (.s .o .o) (.s (.i (.s .o (.s .o (.s .o .o)))) .o)))))) (.s .o .o)))
@[reducible] noncomputable def B29 : {c : Go.Code // Tryd.f29.body = some c} := ⟨_, rfl⟩
theorem fn29 : En.fn 29 = some (Tryd.f29, A29) := by kernel_rfl
theorem c29 (m : Nat) (x0 x1 : AV) (H : Heap) : En.call (m + 1) (.f 29) [x0, x1] H = @X ⟨En, En.call m, 29, 24, H.length⟩ ⟨(B29.1, A29, [])⟩ ⟨[x0, x1, .unk, .unk, .unk, .unk, .unk, .unk, .unk, .unk, .unk, .unk, .unk, .unk, .unk, .unk, .unk, .unk, .unk, .unk, .unk, .unk, .unk, .unk], H⟩ _ ⟨endF En 29 H.length [.tmp 4]⟩ :=
  call_X En m 29 [x0, x1] H Tryd.f29 A29 B29.1 24 [.tmp 4] fn29 B29.2 rfl rfl (Nat.le_of_ble_eq_true rfl)
@[go_sem] theorem fz29 : En.frz 29 = false := by kernel_rfl
@[reducible] def A30 : Ann := (.s .o (.s .o .o))
@[reducible] noncomputable def B30 : {c : Go.Code // Tryd.f30.body = some c} := ⟨_, rfl⟩
theorem fn30 : En.fn 30 = some (Tryd.f30, A30) := by kernel_rfl
theorem c30 (m : Nat) (x0 x1 x2 : AV) (H : Heap) : En.call (m + 1) (.f 30) [x0, x1, x2] H = @X ⟨En, En.call m, 30, 15, H.length⟩ ⟨(B30.1, A30, [])⟩ ⟨[x0, x1, x2, .unk, .unk, .unk, .unk, .unk, .unk, .unk, .unk, .unk, .unk, .unk, .unk], H⟩ _ ⟨endF En 30 H.length [.tmp 5]⟩ :=
  call_X En m 30 [x0, x1, x2] H Tryd.f30 A30 B30.1 15 [.tmp 5] fn30 B30.2 rfl rfl (Nat.le_of_ble_eq_true rfl)
@[go_sem] theorem fz30 : En.frz 30 = false := by kernel_rfl
@[reducible] def A31 : Ann := (.s .o (.s .o .o))
@[reducible] noncomputable def B31 : {c : Go.Code // Tryd.f31.body = some c} := ⟨_, rfl⟩
theorem fn31 : En.fn 31 = some (Tryd.f31, A31) := by kernel_rfl
theorem c31 (m : Nat) (x0 x1 : AV) (H : Heap) : En.call (m + 1) (.f 31) [x0, x1] H = @X ⟨En, En.call m, 31, 9, H.length⟩ ⟨(B31.1, A31, [])⟩ ⟨[x0, x1, .unk, .unk, .unk, .unk, .unk, .unk, .unk], H⟩ _ ⟨endF En 31 H.length [.tmp 4]⟩ :=
  call_X En m 31 [x0, x1] H Tryd.f31 A31 B31.1 9 [.tmp 4] fn31 B31.2 rfl rfl (Nat.le_of_ble_eq_true rfl)
@[go_sem] theorem fz31 : En.frz 31 = false := by kernel_rfl
@[reducible] def A32 : Ann := (.s .o (.s .o .o))
@[reducible] noncomputable def B32 : {c : Go.Code // Tryd.f32.body = some c} := ⟨_, rfl⟩
theorem fn32 : En.fn 32 = some (Tryd.f32, A32) := by kernel_rfl
theorem c32 (m : Nat) (x0 x1 : AV) (H : Heap) : En.call (m + 1) (.f 32) [x0, x1] H = @X ⟨En, En.call m, 32, 16, H.length⟩ ⟨(B32.1, A32, [])⟩ ⟨[x0, x1, .unk, .unk, .unk, .unk, .unk, .unk, .unk, .unk, .unk, .unk, .unk, .unk, .unk, .unk], H⟩ _ ⟨endF En 32 H.length [.tmp 3]⟩ :=
  call_X En m 32 [x0, x1] H Tryd.f32 A32 B32.1 16 [.tmp 3] fn32 B32.2 rfl rfl (Nat.le_of_ble_eq_true rfl)
@[go_sem] theorem fz32 : En.frz 32 = false := by kernel_rfl
@[reducible] def A33 : Ann := (.s .o (.s (.s .o (.s (.s .o .o) .o)) (.s (.s .o (.i (.l [0, 1, 12, 13] [4] (.s .o (.s (.s .o .o) (.s (.i (.s .o (.s .o (.s (.s .o .o) .o)))) .o)))))) (.s .o .o))))
@[reducible] noncomputable def B33 : {c : Go.Code // Tryd.f33.body = some c} := ⟨_, rfl⟩
theorem fn33 : En.fn 33 = some (Tryd.f33, A33) := by kernel_rfl
theorem c33 (m : Nat) (x0 x1 : AV) (H : Heap) : En.call (m + 1) (.f 33) [x0, x1] H = @X ⟨En, En.call m, 33, 26, H.length⟩ ⟨(B33.1, A33, [])⟩ ⟨[x0, x1, .unk, .unk, .unk, .unk, .unk, .unk, .unk, .unk, .unk, .unk, .unk, .unk, .unk, .unk, .unk, .unk, .unk, .unk, .unk, .unk, .unk, .unk, .unk, .unk], H⟩ _ ⟨endF En 33 H.length [.tmp 4]⟩ :=
  call_X En m 33 [x0, x1] H Tryd.f33 A33 B33.1 26 [.tmp 4] fn33 B33.2 rfl rfl (Nat.le_of_ble_eq_true rfl)
@[go_sem] theorem fz33 : En.frz 33 = true := by kernel_rfl
@[reducible] def A34 : Ann := (.s .o (.s (.s .o (.s (.s .o .o) .o)) (.s (.s .o (.i (.l [0, 1, 5] [4] (.s (.s .o (.s .o .o)) (.s (.i (.s .o (.s (.s .o .o) .o))) .o))))) (.s .o .o))))
@[reducible] noncomputable def B34 : {c : Go.Code // Tryd.f34.body = some c} := ⟨_, rfl⟩
theorem fn34 : En.fn 34 = some (Tryd.f34, A34) := by kernel_rfl
theorem c34 (m : Nat) (x0 x1 : AV) (H : Heap) : En.call (m + 1) (.f 34) [x0, x1] H = @X ⟨En, En.call m, 34, 26, H.length⟩ ⟨(B34.1, A34, [])⟩ ⟨[x0, x1, .unk, .unk, .unk, .unk, .unk, .unk, .unk, .unk, .unk, .unk, .unk, .unk, .unk, .unk, .unk, .unk, .unk, .unk, .unk, .unk, .unk, .unk, .unk, .unk], H⟩ _ ⟨endF En 34 H.length [.tmp 4]⟩ :=
  call_X En m 34 [x0, x1] H Tryd.f34 A34 B34.1 26 [.tmp 4] fn34 B34.2 rfl rfl (Nat.le_of_ble_eq_true rfl)
@[go_sem] theorem fz34 : En.frz 34 = true := by kernel_rfl
@[reducible] def A35 : Ann := (.s .o (.s .o (.s (.s .o (.i (.l [13, 2, 14, 15, 3, 6] [6, 3] (.s .o (.s (.s .o .o) (.s (.i (.s .o .o)) .o)))))) (.s .o .o))))
@[reducible] noncomputable def B35 : {c : Go.Code // Tryd.f35.body = some c} := ⟨_, rfl⟩
theorem fn35 : En.fn 35 = some (Tryd.f35, A35) := by kernel_rfl
theorem c35 (m : Nat) (x0 x1 x2 : AV) (H : Heap) : En.call (m + 1) (.f 35) [x0, x1, x2] H = @X ⟨En, En.call m, 35, 27, H.length⟩ ⟨(B35.1, A35, [])⟩ ⟨[x0, x1, x2, .unk, .unk, .unk, .unk, .unk, .unk, .unk, .unk, .unk, .unk, .unk, .unk, .unk, .unk, .unk, .unk, .unk, .unk, .unk, .unk, .unk, .unk, .unk, .unk], H⟩ _ ⟨endF En 35 H.length [.cell 6 24]⟩ :=
  call_X En m 35 [x0, x1, x2] H Tryd.f35 A35 B35.1 27 [.cell 6 24] fn35 B35.2 rfl rfl (Nat.le_of_ble_eq_true rfl)
@[go_sem] theorem fz35 : En.frz 35 = false := by kernel_rfl
@[reducible] def A36 : Ann := (.s .o (.s .o .o))
@[reducible] noncomputable def B36 : {c : Go.Code // Tryd.f36.body = some c} := ⟨_, rfl⟩
theorem fn36 : En.fn 36 = some (Tryd.f36, A36) := by kernel_rfl
theorem c36 (m : Nat) (x0 x1 : AV) (H : Heap) : En.call (m + 1) (.f 36) [x0, x1] H = @X ⟨En, En.call m, 36, 9, H.length⟩ ⟨(B36.1, A36, [])⟩ ⟨[x0, x1, .unk, .unk, .unk, .unk, .unk, .unk, .unk], H⟩ _ ⟨endF En 36 H.length [.tmp 4]⟩ :=
  call_X En m 36 [x0, x1] H Tryd.f36 A36 B36.1 9 [.tmp 4] fn36 B36.2 rfl rfl (Nat.le_of_ble_eq_true rfl)
@[go_sem] theorem fz36 : En.frz 36 = true := by kernel_rfl
@[reducible] def A37 : Ann := .o
@[reducible] noncomputable def B37 : {c : Go.Code // Tryd.f37.body = some c} := ⟨_, rfl⟩
theorem fn37 : En.fn 37 = some (Tryd.f37, A37) := by kernel_rfl
theorem c37 (m : Nat) (x0 : AV) (H : Heap) : En.call (m + 1) (.f 37) [x0] H = @X ⟨En, En.call m, 37, 5, H.length⟩ ⟨(B37.1, A37, [])⟩ ⟨[x0, .unk, .unk, .unk, .unk], H⟩ _ ⟨endF En 37 H.length []⟩ :=
  call_X En m 37 [x0] H Tryd.f37 A37 B37.1 5 [] fn37 B37.2 rfl rfl (Nat.le_of_ble_eq_true rfl)
@[go_sem] theorem fz37 : En.frz 37 = false := by kernel_rfl
@[reducible] def A38 : Ann := (.s .o (.s .o (.s .o (.s .o (.s .o (.j [5, 7, 8, 11, 10] .o (.s .o .o)))))))
@[reducible] noncomputable def B38 : {c : Go.Code // Tryd.f38.body = some c} := ⟨_, by simp only [Tryd.f38, List.append_eq, List.cons_append, List.nil_append]; rfl⟩
theorem fn38 : En.fn 38 = some (Tryd.f38, A38) := by kernel_rfl
theorem c38 (m : Nat) (x0 x1 x2 x3 : AV) (H : Heap) : En.call (m + 1) (.f 38) [x0, x1, x2, x3] H = @X ⟨En, En.call m, 38, 73, H.length⟩ ⟨(B38.1, A38, [])⟩ ⟨[x0, x1, x2, x3, .unk, .unk, .unk, .unk, .unk, .unk, .unk, .unk, .unk, .unk, .unk, .unk, .unk, .unk, .unk, .unk, .unk, .unk, .unk, .unk, .unk, .unk, .unk, .unk, .unk, .unk, .unk, .unk, .unk, .unk, .unk, .unk, .unk, .unk, .unk, .unk, .unk, .unk, .unk, .unk, .unk, .unk, .unk, .unk, .unk, .unk, .unk, .unk, .unk, .unk, .unk, .unk, .unk, .unk, .unk, .unk, .unk, .unk, .unk, .unk, .unk, .unk, .unk, .unk, .unk, .unk, .unk, .unk, .unk], H⟩ _ ⟨endF En 38 H.length [.tmp 6]⟩ :=
  call_X En m 38 [x0, x1, x2, x3] H Tryd.f38 A38 B38.1 73 [.tmp 6] fn38 B38.2 rfl rfl (Nat.le_of_ble_eq_true rfl)
@[go_sem] theorem fz38 : En.frz 38 = false := by kernel_rfl
@[reducible] def A39 : Ann := (.s .o (.s (.s .o (.s (.s .o .o) .o)) (.s (.s .o (.i (.l [0, 1, 12, 13] [4] (.s .o (.s (.s .o .o) (.s (.i (.s .o (.s .o (.s (.s .o .o) .o)))) .o)))))) (.s .o .o))))
@[reducible] noncomputable def B39 : {c : Go.Code // Tryd.f39.body = some c} := ⟨_, rfl⟩
theorem fn39 : En.fn 39 = some (Tryd.f39, A39) := by kernel_rfl
theorem c39 (m : Nat) (x0 x1 : AV) (H : Heap) : En.call (m + 1) (.f 39) [x0, x1] H = @X ⟨En, En.call m, 39, 26, H.length⟩ ⟨(B39.1, A39, [])⟩ ⟨[x0, x1, .unk, .unk, .unk, .unk, .unk, .unk, .unk, .unk, .unk, .unk, .unk, .unk, .unk, .unk, .unk, .unk, .unk, .unk, .unk, .unk, .unk, .unk, .unk, .unk], H⟩ _ ⟨endF En 39 H.length [.tmp 4]⟩ :=
  call_X En m 39 [x0, x1] H Tryd.f39 A39 B39.1 26 [.tmp 4] fn39 B39.2 rfl rfl (Nat.le_of_ble_eq_true rfl)
@[go_sem] theorem fz39 : En.frz 39 = true := by kernel_rfl
@[reducible] def A40 : Ann := (.s .o (.s .o (.s (.s .o (.i (.s .o (.i .o)))) (.s .o .o))))
@[reducible] noncomputable def B40 : {c : Go.Code // Tryd.f40.body = some c} := ⟨_, rfl⟩
theorem fn40 : En.fn 40 = some (Tryd.f40, A40) := by kernel_rfl
@[reducible] noncomputable def L40_0 : {c : List Go.Tmp × Go.Code × Go.Code × Ann × Ann // (rfs B40.1 A40)[0]? = some c} := ⟨_, rfl⟩
theorem c40 (m : Nat) (x0 : AV) (H : Heap) : En.call (m + 1) (.f 40) [x0] H = @X ⟨En, En.call m, 40, 17, H.length⟩ ⟨(B40.1, A40, [])⟩ ⟨[x0, .unk, .unk, .unk, .unk, .unk, .unk, .unk, .unk, .unk, .unk, .unk, .unk, .unk, .unk, .unk, .unk], H⟩ _ ⟨endF En 40 H.length [.cell 2 44]⟩ :=
  call_X En m 40 [x0] H Tryd.f40 A40 B40.1 17 [.cell 2 44] fn40 B40.2 rfl rfl (Nat.le_of_ble_eq_true rfl)
@[go_sem] theorem fz40 : En.frz 40 = true := by kernel_rfl
@[reducible] def A41 : Ann := (.s .o (.s .o (.s (.j [5, 1, 2, 49] .o (.s (.s .o .o) .o)) (.s (.s .o (.i (.l [2, 1, 6, 5] [5, 4] (.s (.s .o (.s .o .o)) (.s (.i (.j [5, 1, 2, 6, 78] .o (.s (.s .o .o) .o))) .o))))) (.s .o .o)))))
@[reducible] noncomputable def B41 : {c : Go.Code // Tryd.f41.body = some c} := ⟨_, by simp only [Tryd.f41, List.append_eq, List.cons_append, List.nil_append]; rfl⟩
theorem fn41 : En.fn 41 = some (Tryd.f41, A41) := by kernel_rfl
theorem c41 (m : Nat) (x0 x1 : AV) (H : Heap) : En.call (m + 1) (.f 41) [x0, x1] H = @X ⟨En, En.call m, 41, 87, H.length⟩ ⟨(B41.1, A41, [])⟩ ⟨[x0, x1, .unk, .unk, .unk, .unk, .unk, .unk, .unk, .unk, .unk, .unk, .unk, .unk, .unk, .unk, .unk, .unk, .unk, .unk, .unk, .unk, .unk, .unk, .unk, .unk, .unk, .unk, .unk, .unk, .unk, .unk, .unk, .unk, .unk, .unk, .unk, .unk, .unk, .unk, .unk, .unk, .unk, .unk, .unk, .unk, .unk, .unk, .unk, .unk, .unk, .unk, .unk, .unk, .unk, .unk, .unk, .unk, .unk, .unk, .unk, .unk, .unk, .unk, .unk, .unk, .unk, .unk, .unk, .unk, .unk, .unk, .unk, .unk, .unk, .unk, .unk, .unk, .unk, .unk, .unk, .unk, .unk, .unk, .unk, .unk, .unk], H⟩ _ ⟨endF En 41 H.length [.tmp 4]⟩ :=
  call_X En m 41 [x0, x1] H Tryd.f41 A41 B41.1 87 [.tmp 4] fn41 B41.2 rfl rfl (Nat.le_of_ble_eq_true rfl)
@[go_sem] theorem fz41 : En.frz 41 = true := by kernel_rfl
@[reducible] def A42 : Ann := (.s .o (.s .o .o))
@[reducible] noncomputable def B42 : {c : Go.Code // Tryd.f42.body = some c} := ⟨_, rfl⟩
theorem fn42 : En.fn 42 = some (Tryd.f42, A42) := by kernel_rfl
theorem c42 (m : Nat) (x0 x1 : AV) (H : Heap) : En.call (m + 1) (.f 42) [x0, x1] H = @X ⟨En, En.call m, 42, 59, H.length⟩ ⟨(B42.1, A42, [])⟩ ⟨[x0, x1, .unk, .unk, .unk, .unk, .unk, .unk, .unk, .unk, .unk, .unk, .unk, .unk, .unk, .unk, .unk, .unk, .unk, .unk, .unk, .unk, .unk, .unk, .unk, .unk, .unk, .unk, .unk, .unk, .unk, .unk, .unk, .unk, .unk, .unk, .unk, .unk, .unk, .unk, .unk, .unk, .unk, .unk, .unk, .unk, .unk, .unk, .unk, .unk, .unk, .unk, .unk, .unk, .unk, .unk, .unk, .unk, .unk], H⟩ _ ⟨endF En 42 H.length [.tmp 4]⟩ :=
  call_X En m 42 [x0, x1] H Tryd.f42 A42 B42.1 59 [.tmp 4] fn42 B42.2 rfl rfl (Nat.le_of_ble_eq_true rfl)
@[go_sem] theorem fz42 : En.frz 42 = true := by kernel_rfl
@[reducible] def A43 : Ann := (.s .o (.s (.s .o (.s (.s .o .o) .o)) (.s (.s .o (.i (.l [0, 1, 5] [4] (.s (.s .o (.s .o .o)) (.s (.i (.s .o (.s (.s .o .o) .o))) .o))))) (.s .o .o))))
@[reducible] noncomputable def B43 : {c : Go.Code // Tryd.f43.body = some c} := ⟨_, rfl⟩
theorem fn43 : En.fn 43 = some (Tryd.f43, A43) := by kernel_rfl
theorem c43 (m : Nat) (x0 x1 : AV) (H : Heap) : En.call (m + 1) (.f 43) [x0, x1] H = @X ⟨En, En.call m, 43, 26, H.length⟩ ⟨(B43.1, A43, [])⟩ ⟨[x0, x1, .unk, .unk, .unk, .unk, .unk, .unk, .unk, .unk, .unk, .unk, .unk, .unk, .unk, .unk, .unk, .unk, .unk, .unk, .unk, .unk, .unk, .unk, .unk, .unk], H⟩ _ ⟨endF En 43 H.length [.tmp 4]⟩ :=
  call_X En m 43 [x0, x1] H Tryd.f43 A43 B43.1 26 [.tmp 4] fn43 B43.2 rfl rfl (Nat.le_of_ble_eq_true rfl)
@[go_sem] theorem fz43 : En.frz 43 = true := by kernel_rfl
@[reducible] def A44 : Ann := (.s .o (.s .o .o))
@[reducible] noncomputable def B44 : {c : Go.Code // Tryd.f44.body = some c} := ⟨_, rfl⟩
theorem fn44 : En.fn 44 = some (Tryd.f44, A44) := by kernel_rfl
theorem c44 (m : Nat) (H : Heap) : En.call (m + 1) (.f 44) [] H = @X ⟨En, En.call m, 44, 6, H.length⟩ ⟨(B44.1, A44, [])⟩ ⟨[.unk, .unk, .unk, .unk, .unk, .unk], H⟩ _ ⟨endF En 44 H.length [.tmp 0]⟩ :=
  call_X En m 44 [] H Tryd.f44 A44 B44.1 6 [.tmp 0] fn44 B44.2 rfl rfl (Nat.le_of_ble_eq_true rfl)
@[go_sem] theorem fz44 : En.frz 44 = true := by kernel_rfl
@[reducible] def A45 : Ann := (.s .o (.s (.s .o (.i (.l [1, 0, 7, 8] [4] (.s .o (.s (.s .o .o) (.s (.i (.s .o (.s .o (.s (.s .o .o) .o)))) .o)))))) (.s .o .o)))
@[reducible] noncomputable def B45 : {c : Go.Code // Tryd.f45.body = some c} := ⟨_, rfl⟩
theorem fn45 : En.fn 45 = some (Tryd.f45, A45) := by kernel_rfl
theorem c45 (m : Nat) (x0 x1 : AV) (H : Heap) : En.call (m + 1) (.f 45) [x0, x1] H = @X ⟨En, En.call m, 45, 19, H.length⟩ ⟨(B45.1, A45, [])⟩ ⟨[x0, x1, .unk, .unk, .unk, .unk, .unk, .unk, .unk, .unk, .unk, .unk, .unk, .unk, .unk, .unk, .unk, .unk, .unk], H⟩ _ ⟨endF En 45 H.length [.tmp 4]⟩ :=
  call_X En m 45 [x0, x1] H Tryd.f45 A45 B45.1 19 [.tmp 4] fn45 B45.2 rfl rfl (Nat.le_of_ble_eq_true rfl)
@[go_sem] theorem fz45 : En.frz 45 = false := by kernel_rfl
@[reducible] def A46 : Ann := (.s .o (.s (.s .o (.s (.s .o .o) .o)) (.s .o .o)))
@[reducible] noncomputable def B46 : {c : Go.Code // Tryd.f46.body = some c} := ⟨_, rfl⟩
theorem fn46 : En.fn 46 = some (Tryd.f46, A46) := by kernel_rfl
theorem c46 (m : Nat) (x0 : AV) (H : Heap) : En.call (m + 1) (.f 46) [x0] H = @X ⟨En, En.call m, 46, 8, H.length⟩ ⟨(B46.1, A46, [])⟩ ⟨[x0, .unk, .unk, .unk, .unk, .unk, .unk, .unk], H⟩ _ ⟨endF En 46 H.length [.tmp 2]⟩ :=
  call_X En m 46 [x0] H Tryd.f46 A46 B46.1 8 [.tmp 2] fn46 B46.2 rfl rfl (Nat.le_of_ble_eq_true rfl)
@[go_sem] theorem fz46 : En.frz 46 = false := by kernel_rfl
@[reducible] def A47 : Ann := (.s .o (.s .o .o))
@[reducible] noncomputable def B47 : {c : Go.Code // Tryd.f47.body = some c} := ⟨_, rfl⟩
theorem fn47 : En.fn 47 = some (Tryd.f47, A47) := by kernel_rfl
theorem c47 (m : Nat) (x0 x1 x2 : AV) (H : Heap) : En.call (m + 1) (.f 47) [x0, x1, x2] H = @X ⟨En, En.call m, 47, 16, H.length⟩ ⟨(B47.1, A47, [])⟩ ⟨[x0, x1, x2, .unk, .unk, .unk, .unk, .unk, .unk, .unk, .unk, .unk, .unk, .unk, .unk, .unk], H⟩ _ ⟨endF En 47 H.length [.tmp 5]⟩ :=
  call_X En m 47 [x0, x1, x2] H Tryd.f47 A47 B47.1 16 [.tmp 5] fn47 B47.2 rfl rfl (Nat.le_of_ble_eq_true rfl)
@[go_sem] theorem fz47 : En.frz 47 = false := by kernel_rfl
@[reducible] def A48 : Ann := (.s .o (.s .o .o))
@[reducible] noncomputable def B48 : {c : Go.Code // Tryd.f48.body = some c} := ⟨_, rfl⟩
theorem fn48 : En.fn 48 = some (Tryd.f48, A48) := by kernel_rfl
theorem c48 (m : Nat) (x0 : AV) (H : Heap) : En.call (m + 1) (.f 48) [x0] H = @X ⟨En, En.call m, 48, 4, H.length⟩ ⟨(B48.1, A48, [])⟩ ⟨[x0, .unk, .unk, .unk], H⟩ _ ⟨endF En 48 H.length [.tmp 2]⟩ :=
  call_X En m 48 [x0] H Tryd.f48 A48 B48.1 4 [.tmp 2] fn48 B48.2 rfl rfl (Nat.le_of_ble_eq_true rfl)
@[go_sem] theorem fz48 : En.frz 48 = false := by kernel_rfl
@[reducible] def A49 : Ann := (.s .o (.s (.s .o (.i (.l [5, 6, 2, 4] [4, 2] (.s .o (.s (.s .o .o) (.s (.i .o) .o)))))) (.s .o .o)))
@[reducible] noncomputable def B49 : {c : Go.Code // Tryd.f49.body = some c} := ⟨_, rfl⟩
theorem fn49 : En.fn 49 = some (Tryd.f49, A49) := by kernel_rfl
theorem c49 (m : Nat) (x0 x1 : AV) (H : Heap) : En.call (m + 1) (.f 49) [x0, x1] H = @X ⟨En, En.call m, 49, 12, H.length⟩ ⟨(B49.1, A49, [])⟩ ⟨[x0, x1, .unk, .unk, .unk, .unk, .unk, .unk, .unk, .unk, .unk, .unk], H⟩ _ ⟨endF En 49 H.length [.cell 4 44]⟩ :=
  call_X En m 49 [x0, x1] H Tryd.f49 A49 B49.1 12 [.cell 4 44] fn49 B49.2 rfl rfl (Nat.le_of_ble_eq_true rfl)
@[go_sem] theorem fz49 : En.frz 49 = true := by kernel_rfl
@[reducible] def A50 : Ann := (.s .o (.s .o (.s (.s .o (.i (.l [6, 7, 8, 3, 2] [2, 3] (.s .o (.s (.s .o .o) (.s (.i (.s .o .o)) .o)))))) (.s .o .o))))
@[reducible] noncomputable def B50 : {c : Go.Code // Tryd.f50.body = some c} := ⟨_, rfl⟩
theorem fn50 : En.fn 50 = some (Tryd.f50, A50) := by kernel_rfl
theorem c50 (m : Nat) (x0 : AV) (H : Heap) : En.call (m + 1) (.f 50) [x0] H = @X ⟨En, En.call m, 50, 18, H.length⟩ ⟨(B50.1, A50, [])⟩ ⟨[x0, .unk, .unk, .unk, .unk, .unk, .unk, .unk, .unk, .unk, .unk, .unk, .unk, .unk, .unk, .unk, .unk, .unk], H⟩ _ ⟨endF En 50 H.length [.cell 2 44]⟩ :=
  call_X En m 50 [x0] H Tryd.f50 A50 B50.1 18 [.cell 2 44] fn50 B50.2 rfl rfl (Nat.le_of_ble_eq_true rfl)
@[go_sem] theorem fz50 : En.frz 50 = true := by kernel_rfl
@[reducible] def A51 : Ann := (.s .o (.s .o (.s (.s .o (.i (.l [1, 4, 3, 2] [2, 3] (.s (.s .o (.s .o .o)) (.s (.i .o) .o))))) (.s .o .o))))
@[reducible] noncomputable def B51 : {c : Go.Code // Tryd.f51.body = some c} := ⟨_, rfl⟩
theorem fn51 : En.fn 51 = some (Tryd.f51, A51) := by kernel_rfl
theorem c51 (m : Nat) (x0 : AV) (H : Heap) : En.call (m + 1) (.f 51) [x0] H = @X ⟨En, En.call m, 51, 19, H.length⟩ ⟨(B51.1, A51, [])⟩ ⟨[x0, .unk, .unk, .unk, .unk, .unk, .unk, .unk, .unk, .unk, .unk, .unk, .unk, .unk, .unk, .unk, .unk, .unk, .unk], H⟩ _ ⟨endF En 51 H.length [.cell 2 44]⟩ :=
  call_X En m 51 [x0] H Tryd.f51 A51 B51.1 19 [.cell 2 44] fn51 B51.2 rfl rfl (Nat.le_of_ble_eq_true rfl)
@[go_sem] theorem fz51 : En.frz 51 = true := by kernel_rfl
@[reducible] def A52 : Ann := (.s .o (.s (.s .o (.s (.s .o .o) .o)) (.s (.s .o (.i (.l [0, 1, 5] [4] (.s (.s .o (.s .o .o)) (.s (.i (.s .o (.s (.s .o .o) .o))) .o))))) (.s .o .o))))
@[reducible] noncomputable def B52 : {c : Go.Code // Tryd.f52.body = some c} := ⟨_, rfl⟩
theorem fn52 : En.fn 52 = some (Tryd.f52, A52) := by kernel_rfl
theorem c52 (m : Nat) (x0 x1 : AV) (H : Heap) : En.call (m + 1) (.f 52) [x0, x1] H = @X ⟨En, En.call m, 52, 26, H.length⟩ ⟨(B52.1, A52, [])⟩ ⟨[x0, x1, .unk, .unk, .unk, .unk, .unk, .unk, .unk, .unk, .unk, .unk, .unk, .unk, .unk, .unk, .unk, .unk, .unk, .unk, .unk, .unk, .unk, .unk, .unk, .unk], H⟩ _ ⟨endF En 52 H.length [.tmp 4]⟩ :=
  call_X En m 52 [x0, x1] H Tryd.f52 A52 B52.1 26 [.tmp 4] fn52 B52.2 rfl rfl (Nat.le_of_ble_eq_true rfl)
@[go_sem] theorem fz52 : En.frz 52 = true := by kernel_rfl
@[reducible] def A53 : Ann := (.s .o (.s (.s .o (.s (.s .o .o) .o)) (.s (.s .o (.i (.l [0, 1, 5] [4] (.s (.s .o (.s .o .o)) (.s (.i (.s .o (.s (.s .o .o) .o))) .o))))) (.s .o .o))))
@[reducible] noncomputable def B53 : {c : Go.Code // Tryd.f53.body = some c} := ⟨_, rfl⟩
theorem fn53 : En.fn 53 = some (Tryd.f53, A53) := by kernel_rfl
theorem c53 (m : Nat) (x0 x1 : AV) (H : Heap) : En.call (m + 1) (.f 53) [x0, x1] H = @X ⟨En, En.call m, 53, 27, H.length⟩ ⟨(B53.1, A53, [])⟩ ⟨[x0, x1, .unk, .unk, .unk, .unk, .unk, .unk, .unk, .unk, .unk, .unk, .unk, .unk, .unk, .unk, .unk, .unk, .unk, .unk, .unk, .unk, .unk, .unk, .unk, .unk, .unk], H⟩ _ ⟨endF En 53 H.length [.tmp 4]⟩ :=
  call_X En m 53 [x0, x1] H Tryd.f53 A53 B53.1 27 [.tmp 4] fn53 B53.2 rfl rfl (Nat.le_of_ble_eq_true rfl)
@[go_sem] theorem fz53 : En.frz 53 = true := by kernel_rfl
@[reducible] def A54 : Ann := (.s .o (.i (.l [0, 1, 4] [] (.s .o (.s (.s .o .o) (.s (.i (.s .o (.s .o (.s .o .o)))) .o))))))
@[reducible] noncomputable def B54 : {c : Go.Code // Tryd.f54.body = some c} := ⟨_, rfl⟩
theorem fn54 : En.fn 54 = some (Tryd.f54, A54) := by kernel_rfl
theorem c54 (m : Nat) (x0 x1 : AV) (H : Heap) : En.call (m + 1) (.f 54) [x0, x1] H = @X ⟨En, En.call m, 54, 18, H.length⟩ ⟨(B54.1, A54, [])⟩ ⟨[x0, x1, .unk, .unk, .unk, .unk, .unk, .unk, .unk, .unk, .unk, .unk, .unk, .unk, .unk, .unk, .unk, .unk], H⟩ _ ⟨endF En 54 H.length []⟩ :=
  call_X En m 54 [x0, x1] H Tryd.f54 A54 B54.1 18 [] fn54 B54.2 rfl rfl (Nat.le_of_ble_eq_true rfl)
@[go_sem] theorem fz54 : En.frz 54 = false := by kernel_rfl
@[reducible] def A55 : Ann := (.s .o (.s .o (.s .o .o)))
@[reducible] noncomputable def B55 : {c : Go.Code // Tryd.f55.body = some c} := ⟨_, rfl⟩
theorem fn55 : En.fn 55 = some (Tryd.f55, A55) := by kernel_rfl
theorem c55 (m : Nat) (x0 x1 : AV) (H : Heap) : En.call (m + 1) (.f 55) [x0, x1] H = @X ⟨En, En.call m, 55, 14, H.length⟩ ⟨(B55.1, A55, [])⟩ ⟨[x0, x1, .unk, .unk, .unk, .unk, .unk, .unk, .unk, .unk, .unk, .unk, .unk, .unk], H⟩ _ ⟨endF En 55 H.length [.cell 4 44]⟩ :=
  call_X En m 55 [x0, x1] H Tryd.f55 A55 B55.1 14 [.cell 4 44] fn55 B55.2 rfl rfl (Nat.le_of_ble_eq_true rfl)
@[go_sem] theorem fz55 : En.frz 55 = true := by kernel_rfl
@[reducible] def A56 : Ann := (.s .o (.s (.s .o (.i (.l [1, 5, 2, 4] [4, 2] (.s (.s .o (.s .o .o)) (.s (.i .o) .o))))) (.s .o .o)))
@[reducible] noncomputable def B56 : {c : Go.Code // Tryd.f56.body = some c} := ⟨_, rfl⟩
theorem fn56 : En.fn 56 = some (Tryd.f56, A56) := by kernel_rfl
theorem c56 (m : Nat) (x0 x1 : AV) (H : Heap) : En.call (m + 1) (.f 56) [x0, x1] H = @X ⟨En, En.call m, 56, 14, H.length⟩ ⟨(B56.1, A56, [])⟩ ⟨[x0, x1, .unk, .unk, .unk, .unk, .unk, .unk, .unk, .unk, .unk, .unk, .unk, .unk], H⟩ _ ⟨endF En 56 H.length [.cell 4 44]⟩ :=
  call_X En m 56 [x0, x1] H Tryd.f56 A56 B56.1 14 [.cell 4 44] fn56 B56.2 rfl rfl (Nat.le_of_ble_eq_true rfl)
@[go_sem] theorem fz56 : En.frz 56 = true := by kernel_rfl
@[reducible] def A57 : Ann := (.s .o (.s .o (.s .o .o)))
@[reducible] noncomputable def B57 : {c : Go.Code // Tryd.f57.body = some c} := ⟨_, rfl⟩
theorem fn57 : En.fn 57 = some (Tryd.f57, A57) := by kernel_rfl
theorem c57 (m : Nat) (x0 x1 : AV) (H : Heap) : En.call (m + 1) (.f 57) [x0, x1] H = @X ⟨En, En.call m, 57, 15, H.length⟩ ⟨(B57.1, A57, [])⟩ ⟨[x0, x1, .unk, .unk, .unk, .unk, .unk, .unk, .unk, .unk, .unk, .unk, .unk, .unk, .unk], H⟩ _ ⟨endF En 57 H.length [.cell 4 44]⟩ :=
  call_X En m 57 [x0, x1] H Tryd.f57 A57 B57.1 15 [.cell 4 44] fn57 B57.2 rfl rfl (Nat.le_of_ble_eq_true rfl)
@[go_sem] theorem fz57 : En.frz 57 = true := by kernel_rfl
@[reducible] def A58 : Ann := (.s .o (.s .o (.s (.s .o (.i (.l [0, 4, 3, 2] [2, 3] (.s (.s .o (.s .o .o)) (.s (.i .o) .o))))) (.s .o .o))))
@[reducible] noncomputable def B58 : {c : Go.Code // Tryd.f58.body = some c} := ⟨_, rfl⟩
theorem fn58 : En.fn 58 = some (Tryd.f58, A58) := by kernel_rfl
theorem c58 (m : Nat) (x0 : AV) (H : Heap) : En.call (m + 1) (.f 58) [x0] H = @X ⟨En, En.call m, 58, 20, H.length⟩ ⟨(B58.1, A58, [])⟩ ⟨[x0, .unk, .unk, .unk, .unk, .unk, .unk, .unk, .unk, .unk, .unk, .unk, .unk, .unk, .unk, .unk, .unk, .unk, .unk, .unk], H⟩ _ ⟨endF En 58 H.length [.cell 2 44]⟩ :=
  call_X En m 58 [x0] H Tryd.f58 A58 B58.1 20 [.cell 2 44] fn58 B58.2 rfl rfl (Nat.le_of_ble_eq_true rfl)
@[go_sem] theorem fz58 : En.frz 58 = true := by kernel_rfl
@[reducible] def A59 : Ann := (.s .o (.s .o .o))
@[reducible] noncomputable def B59 : {c : Go.Code // Tryd.f59.body = some c} := ⟨_, rfl⟩
theorem fn59 : En.fn 59 = some (Tryd.f59, A59) := by kernel_rfl
theorem c59 (m : Nat) (x0 x1 : AV) (H : Heap) : En.call (m + 1) (.f 59) [x0, x1] H = @X ⟨En, En.call m, 59, 24, H.length⟩ ⟨(B59.1, A59, [])⟩ ⟨[x0, x1, .unk, .unk, .unk, .unk, .unk, .unk, .unk, .unk, .unk, .unk, .unk, .unk, .unk, .unk, .unk, .unk, .unk, .unk, .unk, .unk, .unk, .unk], H⟩ _ ⟨endF En 59 H.length [.tmp 4]⟩ :=
  call_X En m 59 [x0, x1] H Tryd.f59 A59 B59.1 24 [.tmp 4] fn59 B59.2 rfl rfl (Nat.le_of_ble_eq_true rfl)
@[go_sem] theorem fz59 : En.frz 59 = true := by kernel_rfl
@[reducible] def A60 : Ann := (.s .o (.s .o (.s .o (.s .o (.s (.i (.l [5, 0, 4, 3, 2] [2, 3, 4, 0, 5] (.s (.s .o (.s .o .o)) (.s (.i .o) .o)))) (.s .o (.s .o (.s .o (.j [2, 3, 6, 4, 0] (.s .o (.s .o .o)) (.s .o (.s (.i (.l [4, 6, 3, 2] [2, 3] (.s (.s .o (.s .o .o)) (.s (.i .o) .o)))) (.s (.s .o (.i (.l [53, 54, 2] [2] (.s .o (.s (.s .o .o) (.s (.i (.s .o .o)) .o)))))) (.s .o .o)))))))))))))
@[reducible] noncomputable def B60 : {c : Go.Code // Tryd.f60.body = some c} := ⟨_, by simp only [Tryd.f60, List.append_eq, List.cons_append, List.nil_append]; rfl⟩
theorem fn60 : En.fn 60 = some (Tryd.f60, A60) := by kernel_rfl
theorem c60 (m : Nat) (x0 : AV) (H : Heap) : En.call (m + 1) (.f 60) [x0] H = @X ⟨En, En.call m, 60, 69, H.length⟩ ⟨(B60.1, A60, [])⟩ ⟨[x0, .unk, .unk, .unk, .unk, .unk, .unk, .unk, .unk, .unk, .unk, .unk, .unk, .unk, .unk, .unk, .unk, .unk, .unk, .unk, .unk, .unk, .unk, .unk, .unk, .unk, .unk, .unk, .unk, .unk, .unk, .unk, .unk, .unk, .unk, .unk, .unk, .unk, .unk, .unk, .unk, .unk, .unk, .unk, .unk, .unk, .unk, .unk, .unk, .unk, .unk, .unk, .unk, .unk, .unk, .unk, .unk, .unk, .unk, .unk, .unk, .unk, .unk, .unk, .unk, .unk, .unk, .unk, .unk], H⟩ _ ⟨endF En 60 H.length [.cell 2 44]⟩ :=
  call_X En m 60 [x0] H Tryd.f60 A60 B60.1 69 [.cell 2 44] fn60 B60.2 rfl rfl (Nat.le_of_ble_eq_true rfl)
@[go_sem] theorem fz60 : En.frz 60 = true := by kernel_rfl
@[reducible] def A61 : Ann := (.s .o (.s .o (.s (.s .o (.i (.l [9, 10, 11, 3, 0] [0, 3] (.s .o (.s (.s .o .o) (.s (.i (.s .o (.s .o (.s .o (.s .o .o))))) .o)))))) (.s .o (.s (.s .o (.i (.l [25, 26, 27, 6] [6] (.s .o (.s (.s .o .o) (.s (.i (.s .o .o)) .o)))))) (.s .o .o))))))
@[reducible] noncomputable def B61 : {c : Go.Code // Tryd.f61.body = some c} := ⟨_, rfl⟩
theorem fn61 : En.fn 61 = some (Tryd.f61, A61) := by kernel_rfl
theorem c61 (m : Nat) (x0 : AV) (H : Heap) : En.call (m + 1) (.f 61) [x0] H = @X ⟨En, En.call m, 61, 36, H.length⟩ ⟨(B61.1, A61, [])⟩ ⟨[x0, .unk, .unk, .unk, .unk, .unk, .unk, .unk, .unk, .unk, .unk, .unk, .unk, .unk, .unk, .unk, .unk, .unk, .unk, .unk, .unk, .unk, .unk, .unk, .unk, .unk, .unk, .unk, .unk, .unk, .unk, .unk, .unk, .unk, .unk, .unk], H⟩ _ ⟨endF En 61 H.length [.tmp 2]⟩ :=
  call_X En m 61 [x0] H Tryd.f61 A61 B61.1 36 [.tmp 2] fn61 B61.2 rfl rfl (Nat.le_of_ble_eq_true rfl)
@[go_sem] theorem fz61 : En.frz 61 = true := by kernel_rfl
@[reducible] def A62 : Ann := (.s .o (.s .o .o))
@[reducible] noncomputable def B62 : {c : Go.Code // Tryd.f62.body = some c} := ⟨_, rfl⟩
theorem fn62 : En.fn 62 = some (Tryd.f62, A62) := by kernel_rfl
theorem c62 (m : Nat) (x0 : AV) (H : Heap) : En.call (m + 1) (.f 62) [x0] H = @X ⟨En, En.call m, 62, 5, H.length⟩ ⟨(B62.1, A62, [])⟩ ⟨[x0, .unk, .unk, .unk, .unk], H⟩ _ ⟨endF En 62 H.length [.cell 2 44]⟩ :=
  call_X En m 62 [x0] H Tryd.f62 A62 B62.1 5 [.cell 2 44] fn62 B62.2 rfl rfl (Nat.le_of_ble_eq_true rfl)
@[go_sem] theorem fz62 : En.frz 62 = true := by kernel_rfl
@[reducible] def A63 : Ann := (.s .o (.s .o (.s .o .o)))
@[reducible] noncomputable def B63 : {c : Go.Code // Tryd.f63.body = some c} := ⟨_, rfl⟩
theorem fn63 : En.fn 63 = some (Tryd.f63, A63) := by kernel_rfl
theorem c63 (m : Nat) (x0 x1 : AV) (H : Heap) : En.call (m + 1) (.f 63) [x0, x1] H = @X ⟨En, En.call m, 63, 15, H.length⟩ ⟨(B63.1, A63, [])⟩ ⟨[x0, x1, .unk, .unk, .unk, .unk, .unk, .unk, .unk, .unk, .unk, .unk, .unk, .unk, .unk], H⟩ _ ⟨endF En 63 H.length [.cell 4 44]⟩ :=
  call_X En m 63 [x0, x1] H Tryd.f63 A63 B63.1 15 [.cell 4 44] fn63 B63.2 rfl rfl (Nat.le_of_ble_eq_true rfl)
@[go_sem] theorem fz63 : En.frz 63 = true := by kernel_rfl
@[reducible] def A64 : Ann := (.s .o (.s (.s .o (.i (.l [1, 14, 4, 0] [0, 4] (.s .o (.s (.s .o .o) (.s (.i (.s .o .o)) .o)))))) (.s (.s .o (.i (.l [6, 4, 0] [0, 4] (.s (.s .o (.s .o .o)) (.s (.i (.s .o .o)) .o))))) (.s .o (.s (.s .o (.i (.l [4, 69, 0, 9] [9, 0] (.s .o (.s (.s .o .o) (.s (.i (.s .o (.s .o (.s .o (.s .o (.s .o .o)))))) .o)))))) (.s .o (.i (.l [0, 9, 129] [] (.s .o (.s (.s .o .o) (.s (.i (.s .o .o)) .o)))))))))))
@[reducible] noncomputable def B64 : {c : Go.Code // Tryd.f64.body = some c} := ⟨_, by simp only [Tryd.f64, List.append_eq, List.cons_append, List.nil_append]; rfl⟩
theorem fn64 : En.fn 64 = some (Tryd.f64, A64) := by kernel_rfl
theorem c64 (m : Nat) (x0 x1 : AV) (H : Heap) : En.call (m + 1) (.f 64) [x0, x1] H = @X ⟨En, En.call m, 64, 144, H.length⟩ ⟨(B64.1, A64, [])⟩ ⟨[x0, x1, .unk, .unk, .unk, .unk, .unk, .unk, .unk, .unk, .unk, .unk, .unk, .unk, .unk, .unk, .unk, .unk, .unk, .unk, .unk, .unk, .unk, .unk, .unk, .unk, .unk, .unk, .unk, .unk, .unk, .unk, .unk, .unk, .unk, .unk, .unk, .unk, .unk, .unk, .unk, .unk, .unk, .unk, .unk, .unk, .unk, .unk, .unk, .unk, .unk, .unk, .unk, .unk, .unk, .unk, .unk, .unk, .unk, .unk, .unk, .unk, .unk, .unk, .unk, .unk, .unk, .unk, .unk, .unk, .unk, .unk, .unk, .unk, .unk, .unk, .unk, .unk, .unk, .unk, .unk, .unk, .unk, .unk, .unk, .unk, .unk, .unk, .unk, .unk, .unk, .unk, .unk, .unk, .unk, .unk, .unk, .unk, .unk, .unk, .unk, .unk, .unk, .unk, .unk, .unk, .unk, .unk, .unk, .unk, .unk, .unk, .unk, .unk, .unk, .unk, .unk, .unk, .unk, .unk, .unk, .unk, .unk, .unk, .unk, .unk, .unk, .unk, .unk, .unk, .unk, .unk, .unk, .unk, .unk, .unk, .unk, .unk, .unk, .unk, .unk, .unk, .unk, .unk], H⟩ _ ⟨endF En 64 H.length []⟩ :=
  call_X En m 64 [x0, x1] H Tryd.f64 A64 B64.1 144 [] fn64 B64.2 rfl rfl (Nat.le_of_ble_eq_true rfl)
@[go_sem] theorem fz64 : En.frz 64 = false := by kernel_rfl
@[reducible] def A65 : Ann := (.s .o (.i (.l [0, 1, 6, 7] [] (.s .o (.s (.s .o .o) (.s (.i (.s .o .o)) .o))))))
@[reducible] noncomputable def B65 : {c : Go.Code // Tryd.f65.body = some c} := ⟨_, rfl⟩
theorem fn65 : En.fn 65 = some (Tryd.f65, A65) := by kernel_rfl
theorem c65 (m : Nat) (x0 x1 : AV) (H : Heap) : En.call (m + 1) (.f 65) [x0, x1] H = @X ⟨En, En.call m, 65, 23, H.length⟩ ⟨(B65.1, A65, [])⟩ ⟨[x0, x1, .unk, .unk, .unk, .unk, .unk, .unk, .unk, .unk, .unk, .unk, .unk, .unk, .unk, .unk, .unk, .unk, .unk, .unk, .unk, .unk, .unk], H⟩ _ ⟨endF En 65 H.length []⟩ :=
  call_X En m 65 [x0, x1] H Tryd.f65 A65 B65.1 23 [] fn65 B65.2 rfl rfl (Nat.le_of_ble_eq_true rfl)
@[go_sem] theorem fz65 : En.frz 65 = false := by kernel_rfl
@[reducible] def A66 : Ann := (.s .o (.j [0, 1] (.s .o (.s .o .o)) (.s (.s .o (.s .o (.s .o .o))) (.s .o .o))))
@[reducible] noncomputable def B66 : {c : Go.Code // Tryd.f66.body = some c} := ⟨_, rfl⟩
theorem fn66 : En.fn 66 = some (Tryd.f66, A66) := by kernel_rfl
theorem c66 (m : Nat) (x0 x1 : AV) (H : Heap) : En.call (m + 1) (.f 66) [x0, x1] H = @X ⟨En, En.call m, 66, 27, H.length⟩ ⟨(B66.1, A66, [])⟩ ⟨[x0, x1, .unk, .unk, .unk, .unk, .unk, .unk, .unk, .unk, .unk, .unk, .unk, .unk, .unk, .unk, .unk, .unk, .unk, .unk, .unk, .unk, .unk, .unk, .unk, .unk, .unk], H⟩ _ ⟨endF En 66 H.length [.tmp 4]⟩ :=
  call_X En m 66 [x0, x1] H Tryd.f66 A66 B66.1 27 [.tmp 4] fn66 B66.2 rfl rfl (Nat.le_of_ble_eq_true rfl)
@[go_sem] theorem fz66 : En.frz 66 = false := by kernel_rfl
@[reducible] def A67 : Ann := (.s .o (.s .o (.s .o (.s (.s .o (.i (.l [4, 5, 3, 2] [2, 3] (.s (.s .o (.s .o .o)) (.s (.i .o) .o))))) (.s .o (.s (.s .o (.i (.l [3, 7, 6, 2] [2, 6] (.s (.s .o (.s .o .o)) (.s (.i .o) .o))))) (.s .o .o)))))))
@[reducible] noncomputable def B67 : {c : Go.Code // Tryd.f67.body = some c} := ⟨_, rfl⟩
theorem fn67 : En.fn 67 = some (Tryd.f67, A67) := by kernel_rfl
theorem c67 (m : Nat) (x0 : AV) (H : Heap) : En.call (m + 1) (.f 67) [x0] H = @X ⟨En, En.call m, 67, 42, H.length⟩ ⟨(B67.1, A67, [])⟩ ⟨[x0, .unk, .unk, .unk, .unk, .unk, .unk, .unk, .unk, .unk, .unk, .unk, .unk, .unk, .unk, .unk, .unk, .unk, .unk, .unk, .unk, .unk, .unk, .unk, .unk, .unk, .unk, .unk, .unk, .unk, .unk, .unk, .unk, .unk, .unk, .unk, .unk, .unk, .unk, .unk, .unk, .unk], H⟩ _ ⟨endF En 67 H.length [.cell 2 44]⟩ :=
  call_X En m 67 [x0] H Tryd.f67 A67 B67.1 42 [.cell 2 44] fn67 B67.2 rfl rfl (Nat.le_of_ble_eq_true rfl)
@[go_sem] theorem fz67 : En.frz 67 = true := by kernel_rfl
@[reducible] def A68 : Ann := (.s .o (.s (.s .o (.i (.l [6, 7, 8, 2] [2] (.s .o (.s (.s .o .o) (.s (.i (.s .o .o)) .o)))))) (.s .o .o)))
@[reducible] noncomputable def B68 : {c : Go.Code // Tryd.f68.body = some c} := ⟨_, rfl⟩
theorem fn68 : En.fn 68 = some (Tryd.f68, A68) := by kernel_rfl
theorem c68 (m : Nat) (x0 : AV) (H : Heap) : En.call (m + 1) (.f 68) [x0] H = @X ⟨En, En.call m, 68, 19, H.length⟩ ⟨(B68.1, A68, [])⟩ ⟨[x0, .unk, .unk, .unk, .unk, .unk, .unk, .unk, .unk, .unk, .unk, .unk, .unk, .unk, .unk, .unk, .unk, .unk, .unk], H⟩ _ ⟨endF En 68 H.length [.tmp 2]⟩ :=
  call_X En m 68 [x0] H Tryd.f68 A68 B68.1 19 [.tmp 2] fn68 B68.2 rfl rfl (Nat.le_of_ble_eq_true rfl)
@[go_sem] theorem fz68 : En.frz 68 = false := by kernel_rfl
@[reducible] def A69 : Ann := (.s .o (.s .o (.s .o .o)))
@[reducible] noncomputable def B69 : {c : Go.Code // Tryd.f69.body = some c} := ⟨_, rfl⟩
theorem fn69 : En.fn 69 = some (Tryd.f69, A69) := by kernel_rfl
theorem c69 (m : Nat) (x0 x1 : AV) (H : Heap) : En.call (m + 1) (.f 69) [x0, x1] H = @X ⟨En, En.call m, 69, 17, H.length⟩ ⟨(B69.1, A69, [])⟩ ⟨[x0, x1, .unk, .unk, .unk, .unk, .unk, .unk, .unk, .unk, .unk, .unk, .unk, .unk, .unk, .unk, .unk], H⟩ _ ⟨endF En 69 H.length [.tmp 4]⟩ :=
  call_X En m 69 [x0, x1] H Tryd.f69 A69 B69.1 17 [.tmp 4] fn69 B69.2 rfl rfl (Nat.le_of_ble_eq_true rfl)
@[go_sem] theorem fz69 : En.frz 69 = true := by kernel_rfl
@[reducible] def A70 : Ann := (.s .o (.s .o .o))
@[reducible] noncomputable def B70 : {c : Go.Code // Tryd.f70.body = some c} := ⟨_, rfl⟩
theorem fn70 : En.fn 70 = some (Tryd.f70, A70) := by kernel_rfl
theorem c70 (m : Nat) (x0 x1 x2 x3 : AV) (H : Heap) : En.call (m + 1) (.f 70) [x0, x1, x2, x3] H = @X ⟨En, En.call m, 70, 23, H.length⟩ ⟨(B70.1, A70, [])⟩ ⟨[x0, x1, x2, x3, .unk, .unk, .unk, .unk, .unk, .unk, .unk, .unk, .unk, .unk, .unk, .unk, .unk, .unk, .unk, .unk, .unk, .unk, .unk], H⟩ _ ⟨endF En 70 H.length [.tmp 8]⟩ :=
  call_X En m 70 [x0, x1, x2, x3] H Tryd.f70 A70 B70.1 23 [.tmp 8] fn70 B70.2 rfl rfl (Nat.le_of_ble_eq_true rfl)
@[go_sem] theorem fz70 : En.frz 70 = true := by kernel_rfl
@[reducible] def A71 : Ann := (.s .o (.s .o (.s (.i (.l [0, 3] [3, 0] (.s (.s .o (.s .o .o)) (.i .o)))) (.s .o (.s (.s .o (.i (.l [4, 5, 3] [3] (.s (.s .o (.s .o .o)) (.s (.i .o) .o))))) (.s .o .o))))))
@[reducible] noncomputable def B71 : {c : Go.Code // Tryd.f71.body = some c} := ⟨_, rfl⟩
theorem fn71 : En.fn 71 = some (Tryd.f71, A71) := by kernel_rfl
theorem c71 (m : Nat) (x0 : AV) (H : Heap) : En.call (m + 1) (.f 71) [x0] H = @X ⟨En, En.call m, 71, 35, H.length⟩ ⟨(B71.1, A71, [])⟩ ⟨[x0, .unk, .unk, .unk, .unk, .unk, .unk, .unk, .unk, .unk, .unk, .unk, .unk, .unk, .unk, .unk, .unk, .unk, .unk, .unk, .unk, .unk, .unk, .unk, .unk, .unk, .unk, .unk, .unk, .unk, .unk, .unk, .unk, .unk, .unk], H⟩ _ ⟨endF En 71 H.length [.tmp 2]⟩ :=
  call_X En m 71 [x0] H Tryd.f71 A71 B71.1 35 [.tmp 2] fn71 B71.2 rfl rfl (Nat.le_of_ble_eq_true rfl)
@[go_sem] theorem fz71 : En.frz 71 = true := by kernel_rfl
@[reducible] def A72 : Ann := (.s .o (.s .o (.s (.s .o (.i (.l [1, 6, 5, 2, 4] [4, 2, 5] (.s (.s .o (.s .o .o)) (.s (.i .o) .o))))) (.s (.s .o (.i (.l [7, 5, 2, 4] [4, 2, 5] (.s (.s .o (.s .o .o)) (.s (.i (.s .o (.s .o .o))) .o))))) (.s .o (.s .o (.s (.s .o (.i (.l [10, 5, 19, 11, 12, 13, 14, 15, 16, 17, 2, 18, 4] [4, 18, 2, 17, 16, 15, 14, 13, 12, 11] (.s (.s .o (.s .o .o)) (.s (.i (.s .o (.s .o .o))) .o))))) (.s .o .o))))))))
@[reducible] noncomputable def B72 : {c : Go.Code // Tryd.f72.body = some c} := ⟨_, by simp only [Tryd.f72, List.append_eq, List.cons_append, List.nil_append]; rfl⟩
theorem fn72 : En.fn 72 = some (Tryd.f72, A72) := by kernel_rfl
theorem c72 (m : Nat) (x0 x1 : AV) (H : Heap) : En.call (m + 1) (.f 72) [x0, x1] H = @X ⟨En, En.call m, 72, 191, H.length⟩ ⟨(B72.1, A72, [])⟩ ⟨[x0, x1, .unk, .unk, .unk, .unk, .unk, .unk, .unk, .unk, .unk, .unk, .unk, .unk, .unk, .unk, .unk, .unk, .unk, .unk, .unk, .unk, .unk, .unk, .unk, .unk, .unk, .unk, .unk, .unk, .unk, .unk, .unk, .unk, .unk, .unk, .unk, .unk, .unk, .unk, .unk, .unk, .unk, .unk, .unk, .unk, .unk, .unk, .unk, .unk, .unk, .unk, .unk, .unk, .unk, .unk, .unk, .unk, .unk, .unk, .unk, .unk, .unk, .unk, .unk, .unk, .unk, .unk, .unk, .unk, .unk, .unk, .unk, .unk, .unk, .unk, .unk, .unk, .unk, .unk, .unk, .unk, .unk, .unk, .unk, .unk, .unk, .unk, .unk, .unk, .unk, .unk, .unk, .unk, .unk, .unk, .unk, .unk, .unk, .unk, .unk, .unk, .unk, .unk, .unk, .unk, .unk, .unk, .unk, .unk, .unk, .unk, .unk, .unk, .unk, .unk, .unk, .unk, .unk, .unk, .unk, .unk, .unk, .unk, .unk, .unk, .unk, .unk, .unk, .unk, .unk, .unk, .unk, .unk, .unk, .unk, .unk, .unk, .unk, .unk, .unk, .unk, .unk, .unk, .unk, .unk, .unk, .unk, .unk, .unk, .unk, .unk, .unk, .unk, .unk, .unk, .unk, .unk, .unk, .unk, .unk, .unk, .unk, .unk, .unk, .unk, .unk, .unk, .unk, .unk, .unk, .unk, .unk, .unk, .unk, .unk, .unk, .unk, .unk, .unk, .unk, .unk, .unk, .unk, .unk, .unk, .unk, .unk, .unk, .unk, .unk], H⟩ _ ⟨endF En 72 H.length [.cell 4 97]⟩ :=
  call_X En m 72 [x0, x1] H Tryd.f72 A72 B72.1 191 [.cell 4 97] fn72 B72.2 rfl rfl (Nat.le_of_ble_eq_true rfl)
@[go_sem] theorem fz72 : En.frz 72 = true := by kernel_rfl
@[reducible] def A73 : Ann := (.s .o (.s .o .o))
@[reducible] noncomputable def B73 : {c : Go.Code // Tryd.f73.body = some c} := ⟨_, rfl⟩
theorem fn73 : En.fn 73 = some (Tryd.f73, A73) := by kernel_rfl
theorem c73 (m : Nat) (x0 : AV) (H : Heap) : En.call (m + 1) (.f 73) [x0] H = @X ⟨En, En.call m, 73, 25, H.length⟩ ⟨(B73.1, A73, [])⟩ ⟨[x0, .unk, .unk, .unk, .unk, .unk, .unk, .unk, .unk, .unk, .unk, .unk, .unk, .unk, .unk, .unk, .unk, .unk, .unk, .unk, .unk, .unk, .unk, .unk, .unk], H⟩ _ ⟨endF En 73 H.length [.tmp 2]⟩ :=
  call_X En m 73 [x0] H Tryd.f73 A73 B73.1 25 [.tmp 2] fn73 B73.2 rfl rfl (Nat.le_of_ble_eq_true rfl)
@[go_sem] theorem fz73 : En.frz 73 = true := by kernel_rfl
@[reducible] def A74 : Ann := (.s .o (.s .o .o))
@[reducible] noncomputable def B74 : {c : Go.Code // Tryd.f74.body = some c} := ⟨_, rfl⟩
theorem fn74 : En.fn 74 = some (Tryd.f74, A74) := by kernel_rfl
theorem c74 (m : Nat) (x0 x1 : AV) (H : Heap) : En.call (m + 1) (.f 74) [x0, x1] H = @X ⟨En, En.call m, 74, 13, H.length⟩ ⟨(B74.1, A74, [])⟩ ⟨[x0, x1, .unk, .unk, .unk, .unk, .unk, .unk, .unk, .unk, .unk, .unk, .unk], H⟩ _ ⟨endF En 74 H.length [.tmp 4]⟩ :=
  call_X En m 74 [x0, x1] H Tryd.f74 A74 B74.1 13 [.tmp 4] fn74 B74.2 rfl rfl (Nat.le_of_ble_eq_true rfl)
@[go_sem] theorem fz74 : En.frz 74 = true := by kernel_rfl
@[reducible] def A75 : Ann := (.s .o (.s .o .o))
@[reducible] noncomputable def B75 : {c : Go.Code // Tryd.f75.body = some c} := ⟨_, rfl⟩
theorem fn75 : En.fn 75 = some (Tryd.f75, A75) := by kernel_rfl
theorem c75 (m : Nat) (H : Heap) : En.call (m + 1) (.f 75) [] H = @X ⟨En, En.call m, 75, 2, H.length⟩ ⟨(B75.1, A75, [])⟩ ⟨[.unk, .unk], H⟩ _ ⟨endF En 75 H.length [.cell 0 105]⟩ :=
  call_X En m 75 [] H Tryd.f75 A75 B75.1 2 [.cell 0 105] fn75 B75.2 rfl rfl (Nat.le_of_ble_eq_true rfl)
@[go_sem] theorem fz75 : En.frz 75 = true := by kernel_rfl
end
end Sp
