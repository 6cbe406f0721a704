/- A part of the proof. -/
import Derived.Test.YtkccojijhaajmaaGreatDoorShPrim
import Derived.Test.YtkccojijhaajmaaGreatDoorChecked
import Derived.KernelRfl
set_option linter.unusedSimpArgs false
set_option linter.unusedVariables false
set_option linter.unusedSectionVars false
set_option maxRecDepth 1000000
namespace Sh
open Go Go.Proofs
def keepS (f : FuncId) (b : Nat) : List Nat :=
  match f, b with
  | 7, 0 => [2, 3, 6, 7]
  | 8, 0 => [2, 3, 4, 7]
  | 8, 2 => [2, 3, 4, 7, 8, 9, 10]
  | 9, 0 => [1, 3, 4]
  | 9, 3 => [1, 3, 4, 5, 6]
  | 10, 0 => [1, 3]
  | 10, 2 => [1, 3, 4, 5]
  | 11, 0 => [1, 2, 3, 10, 11, 12]
  | 11, 2 => [1, 2, 3, 6, 10, 11, 12, 26, 27, 28]
  | 12, 0 => [3, 8, 9, 10]
  | 13, 0 => [0, 3, 4]
  | 14, 0 => [2, 3, 6, 7]
  | 14, 2 => [2, 3, 6, 7]
  | 15, 0 => [1, 3, 7, 8, 9]
  | 16, 0 => [0, 3, 4, 5]
  | 16, 3 => [0, 3, 4, 5]
  | 16, 5 => [0, 3, 4, 5, 7, 8]
  | 16, 7 => [0, 3, 4, 5, 6, 7, 8, 10]
  | 19, 0 => [0, 4, 5]
  | 20, 0 => [0, 3]
  | 23, 0 => [2, 3, 4, 7]
  | 24, 0 => [0, 1, 2, 7]
  | 25, 1 => [2, 5, 6]
  | 27, 0 => [0, 1, 5, 6]
  | 28, 0 => [1, 3]
  | 29, 0 => [0, 3]
  | 29, 2 => [0, 3, 4, 5]
  | 31, 0 => [2, 3, 14, 15, 16]
  | 32, 0 => [3, 9, 10, 11]
  | 32, 2 => [3, 5, 6, 9, 10, 11, 40, 41, 42]
  | 35, 0 => [0, 2, 3]
  | 39, 1 => [0, 32, 33, 34]
  | 40, 0 => [0, 2, 8, 9, 10]
  | 45, 0 => [0, 1, 4, 7, 8]
  | 49, 0 => [0, 2, 3]
  | 52, 0 => [0, 3, 4]
  | 54, 0 => [0, 1, 2, 7]
  | 55, 0 => [0, 3, 4]
  | 56, 0 => [0, 3, 4]
  | 58, 0 => [0, 3, 4]
  | 63, 0 => [0, 2, 3]
  | 68, 0 => [0, 3]
  | 70, 0 => [0, 6, 7, 8]
  | 71, 1 => [0, 43, 44, 45]
  | 76, 0 => [0, 2, 3]
  | 78, 0 => [0, 1, 5]
  | 80, 0 => [0, 3, 4]
  | 81, 0 => [0, 3, 4]
  | 83, 0 => [0]
  | 83, 3 => [0]
  | 88, 0 => [0, 2, 3]
  | 90, 0 => [0, 1, 5]
  | 94, 0 => [3, 7, 8, 9]
  | 98, 3 => [7, 8, 9]
  | 101, 0 => [0, 2, 4]
  | 107, 0 => [0, 3, 4, 5, 58, 59]
  | 108, 0 => [0, 3, 4]
  | 109, 0 => [0, 1, 7, 8]
  | 110, 0 => [0, 2, 4]
  | 121, 0 => [0, 6, 7, 8]
  | 123, 0 => [0, 1, 2]
  | 135, 0 => [0, 1, 4]
  | 136, 0 => [0, 1, 3, 4, 10, 11, 12, 13, 14, 15, 16]
  | 136, 2 => [0, 1, 3, 4, 10, 11, 12, 13, 17]
  | _, _ => []
def modeT (f : FuncId) : Mode :=
  match f with
  | 17 => ⟨[true, false], false⟩
  | 18 => ⟨[true], false⟩
  | 19 => ⟨[true, false], false⟩
  | 20 => ⟨[true], false⟩
  | 21 => ⟨[true, false], false⟩
  | 33 => ⟨[false], true⟩
  | 34 => ⟨[true, false], false⟩
  | 35 => ⟨[true], false⟩
  | 36 => ⟨[true], false⟩
  | 37 => ⟨[true, false], false⟩
  | 38 => ⟨[true], false⟩
  | 39 => ⟨[true, false], false⟩
  | 40 => ⟨[true, false, false], false⟩
  | 41 => ⟨[true], false⟩
  | 47 => ⟨[true], false⟩
  | 48 => ⟨[true, false], false⟩
  | 49 => ⟨[true], false⟩
  | 50 => ⟨[true, false], false⟩
  | 51 => ⟨[true], false⟩
  | 52 => ⟨[true], false⟩
  | 53 => ⟨[true], false⟩
  | 59 => ⟨[true, false], false⟩
  | 60 => ⟨[true], false⟩
  | 61 => ⟨[true], false⟩
  | 62 => ⟨[true, false], false⟩
  | 63 => ⟨[true], false⟩
  | 64 => ⟨[true], false⟩
  | 65 => ⟨[true, false], false⟩
  | 66 => ⟨[true], false⟩
  | 67 => ⟨[true, false], false⟩
  | 68 => ⟨[true], false⟩
  | 69 => ⟨[true, true], false⟩
  | 70 => ⟨[true, false], false⟩
  | 71 => ⟨[true, false], false⟩
  | 72 => ⟨[true, false, false], false⟩
  | 73 => ⟨[true, false], false⟩
  | 74 => ⟨[true, false, false], false⟩
  | 76 => ⟨[true], false⟩
  | 77 => ⟨[true], false⟩
  | 78 => ⟨[true, false], false⟩
  | 79 => ⟨[true], false⟩
  | 83 => ⟨[true], false⟩
  | 84 => ⟨[true], false⟩
  | 85 => ⟨[true, false, false, false, false], false⟩
  | 87 => ⟨[true, false], false⟩
  | 88 => ⟨[true], false⟩
  | 89 => ⟨[true], false⟩
  | 90 => ⟨[true, false], false⟩
  | 91 => ⟨[true], false⟩
  | 92 => ⟨[true, false], false⟩
  | 95 => ⟨[true, false, false], false⟩
  | 99 => ⟨[true, false, false], false⟩
  | 100 => ⟨[true, false], false⟩
  | 101 => ⟨[true], false⟩
  | 105 => ⟨[true], false⟩
  | 107 => ⟨[true], false⟩
  | 108 => ⟨[true], false⟩
  | 110 => ⟨[true], false⟩
  | 111 => ⟨[true], false⟩
  | 112 => ⟨[true], false⟩
  | 113 => ⟨[true], false⟩
  | 117 => ⟨[true, false], false⟩
  | 118 => ⟨[true], false⟩
  | 119 => ⟨[true, false], false⟩
  | 120 => ⟨[true, false, false], false⟩
  | 121 => ⟨[true, false], false⟩
  | 123 => ⟨[true, false, false], false⟩
  | 125 => ⟨[true, false], false⟩
  | 131 => ⟨[true, false], false⟩
  | 160 => ⟨[true], false⟩
  | _ => ⟨[], false⟩
def primS (f : FuncId) : Option (List AV → Heap → Res) :=
  match f with
  | 41 => some (bstringP 5)
  | 113 => some (copyCheckP 94)
  | 132 => some (indexByteP)
  | _ => none
noncomputable def cx : Ctx := { P := Tryz.prog, mode := modeT, prim := primS, keep := keepS }
@[go_sem] theorem cxP : cx.P = Tryz.prog := rfl
@[go_sem] theorem keep_7_0 : cx.keep 7 0 = [2, 3, 6, 7] := rfl
@[go_sem] theorem keep_8_0 : cx.keep 8 0 = [2, 3, 4, 7] := rfl
@[go_sem] theorem keep_8_2 : cx.keep 8 2 = [2, 3, 4, 7, 8, 9, 10] := rfl
@[go_sem] theorem keep_9_0 : cx.keep 9 0 = [1, 3, 4] := rfl
@[go_sem] theorem keep_9_3 : cx.keep 9 3 = [1, 3, 4, 5, 6] := rfl
@[go_sem] theorem keep_10_0 : cx.keep 10 0 = [1, 3] := rfl
@[go_sem] theorem keep_10_2 : cx.keep 10 2 = [1, 3, 4, 5] := rfl
@[go_sem] theorem keep_11_0 : cx.keep 11 0 = [1, 2, 3, 10, 11, 12] := rfl
@[go_sem] theorem keep_11_2 : cx.keep 11 2 = [1, 2, 3, 6, 10, 11, 12, 26, 27, 28] := rfl
@[go_sem] theorem keep_12_0 : cx.keep 12 0 = [3, 8, 9, 10] := rfl
@[go_sem] theorem keep_13_0 : cx.keep 13 0 = [0, 3, 4] := rfl
@[go_sem] theorem keep_14_0 : cx.keep 14 0 = [2, 3, 6, 7] := rfl
@[go_sem] theorem keep_14_2 : cx.keep 14 2 = [2, 3, 6, 7] := rfl
@[go_sem] theorem keep_15_0 : cx.keep 15 0 = [1, 3, 7, 8, 9] := rfl
@[go_sem] theorem keep_16_0 : cx.keep 16 0 = [0, 3, 4, 5] := rfl
@[go_sem] theorem keep_16_3 : cx.keep 16 3 = [0, 3, 4, 5] := rfl
@[go_sem] theorem keep_16_5 : cx.keep 16 5 = [0, 3, 4, 5, 7, 8] := rfl
@[go_sem] theorem keep_16_7 : cx.keep 16 7 = [0, 3, 4, 5, 6, 7, 8, 10] := rfl
@[go_sem] theorem keep_19_0 : cx.keep 19 0 = [0, 4, 5] := rfl
@[go_sem] theorem keep_20_0 : cx.keep 20 0 = [0, 3] := rfl
@[go_sem] theorem keep_23_0 : cx.keep 23 0 = [2, 3, 4, 7] := rfl
@[go_sem] theorem keep_24_0 : cx.keep 24 0 = [0, 1, 2, 7] := rfl
@[go_sem] theorem keep_25_1 : cx.keep 25 1 = [2, 5, 6] := rfl
@[go_sem] theorem keep_27_0 : cx.keep 27 0 = [0, 1, 5, 6] := rfl
@[go_sem] theorem keep_28_0 : cx.keep 28 0 = [1, 3] := rfl
@[go_sem] theorem keep_29_0 : cx.keep 29 0 = [0, 3] := rfl
@[go_sem] theorem keep_29_2 : cx.keep 29 2 = [0, 3, 4, 5] := rfl
@[go_sem] theorem keep_31_0 : cx.keep 31 0 = [2, 3, 14, 15, 16] := rfl
@[go_sem] theorem keep_32_0 : cx.keep 32 0 = [3, 9, 10, 11] := rfl
@[go_sem] theorem keep_32_2 : cx.keep 32 2 = [3, 5, 6, 9, 10, 11, 40, 41, 42] := rfl
@[go_sem] theorem keep_35_0 : cx.keep 35 0 = [0, 2, 3] := rfl
@[go_sem] theorem keep_39_1 : cx.keep 39 1 = [0, 32, 33, 34] := rfl
@[go_sem] theorem keep_40_0 : cx.keep 40 0 = [0, 2, 8, 9, 10] := rfl
@[go_sem] theorem keep_45_0 : cx.keep 45 0 = [0, 1, 4, 7, 8] := rfl
@[go_sem] theorem keep_49_0 : cx.keep 49 0 = [0, 2, 3] := rfl
@[go_sem] theorem keep_52_0 : cx.keep 52 0 = [0, 3, 4] := rfl
@[go_sem] theorem keep_54_0 : cx.keep 54 0 = [0, 1, 2, 7] := rfl
@[go_sem] theorem keep_55_0 : cx.keep 55 0 = [0, 3, 4] := rfl
@[go_sem] theorem keep_56_0 : cx.keep 56 0 = [0, 3, 4] := rfl
@[go_sem] theorem keep_58_0 : cx.keep 58 0 = [0, 3, 4] := rfl
@[go_sem] theorem keep_63_0 : cx.keep 63 0 = [0, 2, 3] := rfl
@[go_sem] theorem keep_68_0 : cx.keep 68 0 = [0, 3] := rfl
@[go_sem] theorem keep_70_0 : cx.keep 70 0 = [0, 6, 7, 8] := rfl
@[go_sem] theorem keep_71_1 : cx.keep 71 1 = [0, 43, 44, 45] := rfl
@[go_sem] theorem keep_76_0 : cx.keep 76 0 = [0, 2, 3] := rfl
@[go_sem] theorem keep_78_0 : cx.keep 78 0 = [0, 1, 5] := rfl
@[go_sem] theorem keep_80_0 : cx.keep 80 0 = [0, 3, 4] := rfl
@[go_sem] theorem keep_81_0 : cx.keep 81 0 = [0, 3, 4] := rfl
@[go_sem] theorem keep_83_0 : cx.keep 83 0 = [0] := rfl
@[go_sem] theorem keep_83_3 : cx.keep 83 3 = [0] := rfl
@[go_sem] theorem keep_88_0 : cx.keep 88 0 = [0, 2, 3] := rfl
@[go_sem] theorem keep_90_0 : cx.keep 90 0 = [0, 1, 5] := rfl
@[go_sem] theorem keep_94_0 : cx.keep 94 0 = [3, 7, 8, 9] := rfl
@[go_sem] theorem keep_98_3 : cx.keep 98 3 = [7, 8, 9] := rfl
@[go_sem] theorem keep_101_0 : cx.keep 101 0 = [0, 2, 4] := rfl
@[go_sem] theorem keep_107_0 : cx.keep 107 0 = [0, 3, 4, 5, 58, 59] := rfl
@[go_sem] theorem keep_108_0 : cx.keep 108 0 = [0, 3, 4] := rfl
@[go_sem] theorem keep_109_0 : cx.keep 109 0 = [0, 1, 7, 8] := rfl
@[go_sem] theorem keep_110_0 : cx.keep 110 0 = [0, 2, 4] := rfl
@[go_sem] theorem keep_121_0 : cx.keep 121 0 = [0, 6, 7, 8] := rfl
@[go_sem] theorem keep_123_0 : cx.keep 123 0 = [0, 1, 2] := rfl
@[go_sem] theorem keep_135_0 : cx.keep 135 0 = [0, 1, 4] := rfl
@[go_sem] theorem keep_136_0 : cx.keep 136 0 = [0, 1, 3, 4, 10, 11, 12, 13, 14, 15, 16] := rfl
@[go_sem] theorem keep_136_2 : cx.keep 136 2 = [0, 1, 3, 4, 10, 11, 12, 13, 17] := rfl
@[go_sem] theorem mode_0 : cx.mode 0 = ⟨[], false⟩ := rfl
@[go_sem] theorem mode_1 : cx.mode 1 = ⟨[], false⟩ := rfl
@[go_sem] theorem mode_2 : cx.mode 2 = ⟨[], false⟩ := rfl
@[go_sem] theorem mode_3 : cx.mode 3 = ⟨[], false⟩ := rfl
@[go_sem] theorem mode_4 : cx.mode 4 = ⟨[], false⟩ := rfl
@[go_sem] theorem mode_5 : cx.mode 5 = ⟨[], false⟩ := rfl
@[go_sem] theorem mode_6 : cx.mode 6 = ⟨[], false⟩ := rfl
@[go_sem] theorem mode_7 : cx.mode 7 = ⟨[], false⟩ := rfl
@[go_sem] theorem mode_8 : cx.mode 8 = ⟨[], false⟩ := rfl
@[go_sem] theorem mode_9 : cx.mode 9 = ⟨[], false⟩ := rfl
@[go_sem] theorem mode_10 : cx.mode 10 = ⟨[], false⟩ := rfl
@[go_sem] theorem mode_11 : cx.mode 11 = ⟨[], false⟩ := rfl
@[go_sem] theorem mode_12 : cx.mode 12 = ⟨[], false⟩ := rfl
@[go_sem] theorem mode_13 : cx.mode 13 = ⟨[], false⟩ := rfl
@[go_sem] theorem mode_14 : cx.mode 14 = ⟨[], false⟩ := rfl
@[go_sem] theorem mode_15 : cx.mode 15 = ⟨[], false⟩ := rfl
@[go_sem] theorem mode_16 : cx.mode 16 = ⟨[], false⟩ := rfl
@[go_sem] theorem mode_17 : cx.mode 17 = ⟨[true, false], false⟩ := rfl
@[go_sem] theorem mode_18 : cx.mode 18 = ⟨[true], false⟩ := rfl
@[go_sem] theorem mode_19 : cx.mode 19 = ⟨[true, false], false⟩ := rfl
@[go_sem] theorem mode_20 : cx.mode 20 = ⟨[true], false⟩ := rfl
@[go_sem] theorem mode_21 : cx.mode 21 = ⟨[true, false], false⟩ := rfl
@[go_sem] theorem mode_22 : cx.mode 22 = ⟨[], false⟩ := rfl
@[go_sem] theorem mode_23 : cx.mode 23 = ⟨[], false⟩ := rfl
@[go_sem] theorem mode_24 : cx.mode 24 = ⟨[], false⟩ := rfl
@[go_sem] theorem mode_25 : cx.mode 25 = ⟨[], false⟩ := rfl
@[go_sem] theorem mode_26 : cx.mode 26 = ⟨[], false⟩ := rfl
@[go_sem] theorem mode_27 : cx.mode 27 = ⟨[], false⟩ := rfl
@[go_sem] theorem mode_28 : cx.mode 28 = ⟨[], false⟩ := rfl
@[go_sem] theorem mode_29 : cx.mode 29 = ⟨[], false⟩ := rfl
@[go_sem] theorem mode_30 : cx.mode 30 = ⟨[], false⟩ := rfl
@[go_sem] theorem mode_31 : cx.mode 31 = ⟨[], false⟩ := rfl
@[go_sem] theorem mode_32 : cx.mode 32 = ⟨[], false⟩ := rfl
@[go_sem] theorem mode_33 : cx.mode 33 = ⟨[false], true⟩ := rfl
@[go_sem] theorem mode_34 : cx.mode 34 = ⟨[true, false], false⟩ := rfl
@[go_sem] theorem mode_35 : cx.mode 35 = ⟨[true], false⟩ := rfl
@[go_sem] theorem mode_36 : cx.mode 36 = ⟨[true], false⟩ := rfl
@[go_sem] theorem mode_37 : cx.mode 37 = ⟨[true, false], false⟩ := rfl
@[go_sem] theorem mode_38 : cx.mode 38 = ⟨[true], false⟩ := rfl
@[go_sem] theorem mode_39 : cx.mode 39 = ⟨[true, false], false⟩ := rfl
@[go_sem] theorem mode_40 : cx.mode 40 = ⟨[true, false, false], false⟩ := rfl
@[go_sem] theorem mode_41 : cx.mode 41 = ⟨[true], false⟩ := rfl
@[go_sem] theorem mode_42 : cx.mode 42 = ⟨[], false⟩ := rfl
@[go_sem] theorem mode_43 : cx.mode 43 = ⟨[], false⟩ := rfl
@[go_sem] theorem mode_44 : cx.mode 44 = ⟨[], false⟩ := rfl
@[go_sem] theorem mode_45 : cx.mode 45 = ⟨[], false⟩ := rfl
@[go_sem] theorem mode_46 : cx.mode 46 = ⟨[], false⟩ := rfl
@[go_sem] theorem mode_47 : cx.mode 47 = ⟨[true], false⟩ := rfl
@[go_sem] theorem mode_48 : cx.mode 48 = ⟨[true, false], false⟩ := rfl
@[go_sem] theorem mode_49 : cx.mode 49 = ⟨[true], false⟩ := rfl
@[go_sem] theorem mode_50 : cx.mode 50 = ⟨[true, false], false⟩ := rfl
@[go_sem] theorem mode_51 : cx.mode 51 = ⟨[true], false⟩ := rfl
@[go_sem] theorem mode_52 : cx.mode 52 = ⟨[true], false⟩ := rfl
@[go_sem] theorem mode_53 : cx.mode 53 = ⟨[true], false⟩ := rfl
@[go_sem] theorem mode_54 : cx.mode 54 = ⟨[], false⟩ := rfl
@[go_sem] theorem mode_55 : cx.mode 55 = ⟨[], false⟩ := rfl
@[go_sem] theorem mode_56 : cx.mode 56 = ⟨[], false⟩ := rfl
@[go_sem] theorem mode_57 : cx.mode 57 = ⟨[], false⟩ := rfl
@[go_sem] theorem mode_58 : cx.mode 58 = ⟨[], false⟩ := rfl
@[go_sem] theorem mode_59 : cx.mode 59 = ⟨[true, false], false⟩ := rfl
@[go_sem] theorem mode_60 : cx.mode 60 = ⟨[true], false⟩ := rfl
@[go_sem] theorem mode_61 : cx.mode 61 = ⟨[true], false⟩ := rfl
@[go_sem] theorem mode_62 : cx.mode 62 = ⟨[true, false], false⟩ := rfl
@[go_sem] theorem mode_63 : cx.mode 63 = ⟨[true], false⟩ := rfl
@[go_sem] theorem mode_64 : cx.mode 64 = ⟨[true], false⟩ := rfl
@[go_sem] theorem mode_65 : cx.mode 65 = ⟨[true, false], false⟩ := rfl
@[go_sem] theorem mode_66 : cx.mode 66 = ⟨[true], false⟩ := rfl
@[go_sem] theorem mode_67 : cx.mode 67 = ⟨[true, false], false⟩ := rfl
@[go_sem] theorem mode_68 : cx.mode 68 = ⟨[true], false⟩ := rfl
@[go_sem] theorem mode_69 : cx.mode 69 = ⟨[true, true], false⟩ := rfl
@[go_sem] theorem mode_70 : cx.mode 70 = ⟨[true, false], false⟩ := rfl
@[go_sem] theorem mode_71 : cx.mode 71 = ⟨[true, false], false⟩ := rfl
@[go_sem] theorem mode_72 : cx.mode 72 = ⟨[true, false, false], false⟩ := rfl
@[go_sem] theorem mode_73 : cx.mode 73 = ⟨[true, false], false⟩ := rfl
@[go_sem] theorem mode_74 : cx.mode 74 = ⟨[true, false, false], false⟩ := rfl
@[go_sem] theorem mode_75 : cx.mode 75 = ⟨[], false⟩ := rfl
@[go_sem] theorem mode_76 : cx.mode 76 = ⟨[true], false⟩ := rfl
@[go_sem] theorem mode_77 : cx.mode 77 = ⟨[true], false⟩ := rfl
@[go_sem] theorem mode_78 : cx.mode 78 = ⟨[true, false], false⟩ := rfl
@[go_sem] theorem mode_79 : cx.mode 79 = ⟨[true], false⟩ := rfl
@[go_sem] theorem mode_80 : cx.mode 80 = ⟨[], false⟩ := rfl
@[go_sem] theorem mode_81 : cx.mode 81 = ⟨[], false⟩ := rfl
@[go_sem] theorem mode_82 : cx.mode 82 = ⟨[], false⟩ := rfl
@[go_sem] theorem mode_83 : cx.mode 83 = ⟨[true], false⟩ := rfl
@[go_sem] theorem mode_84 : cx.mode 84 = ⟨[true], false⟩ := rfl
@[go_sem] theorem mode_85 : cx.mode 85 = ⟨[true, false, false, false, false], false⟩ := rfl
@[go_sem] theorem mode_86 : cx.mode 86 = ⟨[], false⟩ := rfl
@[go_sem] theorem mode_87 : cx.mode 87 = ⟨[true, false], false⟩ := rfl
@[go_sem] theorem mode_88 : cx.mode 88 = ⟨[true], false⟩ := rfl
@[go_sem] theorem mode_89 : cx.mode 89 = ⟨[true], false⟩ := rfl
@[go_sem] theorem mode_90 : cx.mode 90 = ⟨[true, false], false⟩ := rfl
@[go_sem] theorem mode_91 : cx.mode 91 = ⟨[true], false⟩ := rfl
@[go_sem] theorem mode_92 : cx.mode 92 = ⟨[true, false], false⟩ := rfl
@[go_sem] theorem mode_93 : cx.mode 93 = ⟨[], false⟩ := rfl
@[go_sem] theorem mode_94 : cx.mode 94 = ⟨[], false⟩ := rfl
@[go_sem] theorem mode_95 : cx.mode 95 = ⟨[true, false, false], false⟩ := rfl
@[go_sem] theorem mode_96 : cx.mode 96 = ⟨[], false⟩ := rfl
@[go_sem] theorem mode_97 : cx.mode 97 = ⟨[], false⟩ := rfl
@[go_sem] theorem mode_98 : cx.mode 98 = ⟨[], false⟩ := rfl
@[go_sem] theorem mode_99 : cx.mode 99 = ⟨[true, false, false], false⟩ := rfl
@[go_sem] theorem mode_100 : cx.mode 100 = ⟨[true, false], false⟩ := rfl
@[go_sem] theorem mode_101 : cx.mode 101 = ⟨[true], false⟩ := rfl
@[go_sem] theorem mode_102 : cx.mode 102 = ⟨[], false⟩ := rfl
@[go_sem] theorem mode_103 : cx.mode 103 = ⟨[], false⟩ := rfl
@[go_sem] theorem mode_104 : cx.mode 104 = ⟨[], false⟩ := rfl
@[go_sem] theorem mode_105 : cx.mode 105 = ⟨[true], false⟩ := rfl
@[go_sem] theorem mode_106 : cx.mode 106 = ⟨[], false⟩ := rfl
@[go_sem] theorem mode_107 : cx.mode 107 = ⟨[true], false⟩ := rfl
@[go_sem] theorem mode_108 : cx.mode 108 = ⟨[true], false⟩ := rfl
@[go_sem] theorem mode_109 : cx.mode 109 = ⟨[], false⟩ := rfl
@[go_sem] theorem mode_110 : cx.mode 110 = ⟨[true], false⟩ := rfl
@[go_sem] theorem mode_111 : cx.mode 111 = ⟨[true], false⟩ := rfl
@[go_sem] theorem mode_112 : cx.mode 112 = ⟨[true], false⟩ := rfl
@[go_sem] theorem mode_113 : cx.mode 113 = ⟨[true], false⟩ := rfl
@[go_sem] theorem mode_114 : cx.mode 114 = ⟨[], false⟩ := rfl
@[go_sem] theorem mode_115 : cx.mode 115 = ⟨[], false⟩ := rfl
@[go_sem] theorem mode_116 : cx.mode 116 = ⟨[], false⟩ := rfl
@[go_sem] theorem mode_117 : cx.mode 117 = ⟨[true, false], false⟩ := rfl
@[go_sem] theorem mode_118 : cx.mode 118 = ⟨[true], false⟩ := rfl
@[go_sem] theorem mode_119 : cx.mode 119 = ⟨[true, false], false⟩ := rfl
@[go_sem] theorem mode_120 : cx.mode 120 = ⟨[true, false, false], false⟩ := rfl
@[go_sem] theorem mode_121 : cx.mode 121 = ⟨[true, false], false⟩ := rfl
@[go_sem] theorem mode_122 : cx.mode 122 = ⟨[], false⟩ := rfl
@[go_sem] theorem mode_123 : cx.mode 123 = ⟨[true, false, false], false⟩ := rfl
@[go_sem] theorem mode_124 : cx.mode 124 = ⟨[], false⟩ := rfl
@[go_sem] theorem mode_125 : cx.mode 125 = ⟨[true, false], false⟩ := rfl
@[go_sem] theorem mode_126 : cx.mode 126 = ⟨[], false⟩ := rfl
@[go_sem] theorem mode_127 : cx.mode 127 = ⟨[], false⟩ := rfl
@[go_sem] theorem mode_128 : cx.mode 128 = ⟨[], false⟩ := rfl
@[go_sem] theorem mode_129 : cx.mode 129 = ⟨[], false⟩ := rfl
@[go_sem] theorem mode_130 : cx.mode 130 = ⟨[], false⟩ := rfl
@[go_sem] theorem mode_131 : cx.mode 131 = ⟨[true, false], false⟩ := rfl
@[go_sem] theorem mode_132 : cx.mode 132 = ⟨[], false⟩ := rfl
@[go_sem] theorem mode_133 : cx.mode 133 = ⟨[], false⟩ := rfl
@[go_sem] theorem mode_134 : cx.mode 134 = ⟨[], false⟩ := rfl
@[go_sem] theorem mode_135 : cx.mode 135 = ⟨[], false⟩ := rfl
@[go_sem] theorem mode_136 : cx.mode 136 = ⟨[], false⟩ := rfl
@[go_sem] theorem mode_137 : cx.mode 137 = ⟨[], false⟩ := rfl
@[go_sem] theorem mode_138 : cx.mode 138 = ⟨[], false⟩ := rfl
@[go_sem] theorem mode_139 : cx.mode 139 = ⟨[], false⟩ := rfl
@[go_sem] theorem mode_140 : cx.mode 140 = ⟨[], false⟩ := rfl
@[go_sem] theorem mode_141 : cx.mode 141 = ⟨[], false⟩ := rfl
@[go_sem] theorem mode_142 : cx.mode 142 = ⟨[], false⟩ := rfl
@[go_sem] theorem mode_143 : cx.mode 143 = ⟨[], false⟩ := rfl
@[go_sem] theorem mode_144 : cx.mode 144 = ⟨[], false⟩ := rfl
@[go_sem] theorem mode_145 : cx.mode 145 = ⟨[], false⟩ := rfl
@[go_sem] theorem mode_146 : cx.mode 146 = ⟨[], false⟩ := rfl
@[go_sem] theorem mode_147 : cx.mode 147 = ⟨[], false⟩ := rfl
@[go_sem] theorem mode_148 : cx.mode 148 = ⟨[], false⟩ := rfl
@[go_sem] theorem mode_149 : cx.mode 149 = ⟨[], false⟩ := rfl
@[go_sem] theorem mode_150 : cx.mode 150 = ⟨[], false⟩ := rfl
@[go_sem] theorem mode_151 : cx.mode 151 = ⟨[], false⟩ := rfl
@[go_sem] theorem mode_152 : cx.mode 152 = ⟨[], false⟩ := rfl
@[go_sem] theorem mode_153 : cx.mode 153 = ⟨[], false⟩ := rfl
@[go_sem] theorem mode_154 : cx.mode 154 = ⟨[], false⟩ := rfl
@[go_sem] theorem mode_155 : cx.mode 155 = ⟨[], false⟩ := rfl
@[go_sem] theorem mode_156 : cx.mode 156 = ⟨[], false⟩ := rfl
@[go_sem] theorem mode_157 : cx.mode 157 = ⟨[], false⟩ := rfl
@[go_sem] theorem mode_158 : cx.mode 158 = ⟨[], false⟩ := rfl
@[go_sem] theorem mode_159 : cx.mode 159 = ⟨[], false⟩ := rfl
@[go_sem] theorem mode_160 : cx.mode 160 = ⟨[true], false⟩ := rfl
@[go_sem] theorem mode_161 : cx.mode 161 = ⟨[], false⟩ := rfl
@[go_sem] theorem mode_162 : cx.mode 162 = ⟨[], false⟩ := rfl
@[go_sem] theorem mode_163 : cx.mode 163 = ⟨[], false⟩ := rfl
@[go_sem] theorem mode_164 : cx.mode 164 = ⟨[], false⟩ := rfl
@[go_sem] theorem mode_165 : cx.mode 165 = ⟨[], false⟩ := rfl
@[go_sem] theorem mode_166 : cx.mode 166 = ⟨[], false⟩ := rfl
@[go_sem] theorem mode_167 : cx.mode 167 = ⟨[], false⟩ := rfl
end Sh
