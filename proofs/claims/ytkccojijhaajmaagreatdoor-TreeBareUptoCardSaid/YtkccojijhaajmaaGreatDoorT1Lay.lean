/- A part of the proof. -/
import Derived.Test.YtkccojijhaajmaaGreatDoorT1Cx
set_option linter.unusedSimpArgs false
set_option linter.unusedVariables false
set_option linter.unusedSectionVars false
set_option maxRecDepth 1000000
namespace Sh
open Go Go.Proofs
@[go_sem] theorem lay_0 : lay Tryz.prog 0 = { kind := .other, size := 1, zero := some .top, offs := [], es := 0, n := 0, et := 0, feq := none, eb := 0 } := by kernel_rfl
@[go_sem] theorem lay_1 : lay Tryz.prog 1 = { kind := .other, size := 1, zero := some .top, offs := [], es := 0, n := 0, et := 0, feq := none, eb := 0 } := by kernel_rfl
@[go_sem] theorem lay_2 : lay Tryz.prog 2 = { kind := .other, size := 1, zero := some (.int .i64 0), offs := [], es := 0, n := 0, et := 0, feq := none, eb := 0 } := by kernel_rfl
@[go_sem] theorem lay_3 : lay Tryz.prog 3 = { kind := .other, size := 1, zero := some (.int .i64 0), offs := [], es := 0, n := 0, et := 0, feq := none, eb := 0 } := by kernel_rfl
@[go_sem] theorem lay_4 : lay Tryz.prog 4 = { kind := .bool, size := 1, zero := some (.bool false), offs := [], es := 0, n := 0, et := 0, feq := none, eb := 0 } := by kernel_rfl
@[go_sem] theorem lay_5 : lay Tryz.prog 5 = { kind := .other, size := 1, zero := some (.int .u8 0), offs := [], es := 0, n := 0, et := 0, feq := none, eb := 0 } := by kernel_rfl
@[go_sem] theorem lay_6 : lay Tryz.prog 6 = { kind := .other, size := 1, zero := some (.int .u8 0), offs := [], es := 0, n := 0, et := 0, feq := none, eb := 0 } := by kernel_rfl
@[go_sem] theorem lay_7 : lay Tryz.prog 7 = { kind := .struct, size := 4, zero := some (.agg [.int .i64 0, .int .i64 0, .bool false, .int .u8 0]), offs := [(0, 1, 2), (1, 1, 3), (2, 1, 4), (3, 1, 6)], es := 0, n := 0, et := 0, feq := some [(1, .int), (1, .int), (1, .bool), (1, .int)], eb := 0 } := by kernel_rfl
@[go_sem] theorem lay_8 : lay Tryz.prog 8 = { kind := .struct, size := 4, zero := some (.agg [.int .i64 0, .int .i64 0, .bool false, .int .u8 0]), offs := [(0, 1, 2), (1, 1, 3), (2, 1, 4), (3, 1, 6)], es := 0, n := 0, et := 0, feq := some [(1, .int), (1, .int), (1, .bool), (1, .int)], eb := 0 } := by kernel_rfl
@[go_sem] theorem lay_9 : lay Tryz.prog 9 = { kind := .string, size := 1, zero := some (.str []), offs := [], es := 0, n := 0, et := 0, feq := none, eb := 0 } := by kernel_rfl
@[go_sem] theorem lay_10 : lay Tryz.prog 10 = { kind := .string, size := 1, zero := some (.str []), offs := [], es := 0, n := 0, et := 0, feq := none, eb := 0 } := by kernel_rfl
@[go_sem] theorem lay_11 : lay Tryz.prog 11 = { kind := .string, size := 1, zero := some (.str []), offs := [], es := 0, n := 0, et := 0, feq := none, eb := 0 } := by kernel_rfl
@[go_sem] theorem lay_12 : lay Tryz.prog 12 = { kind := .other, size := 1, zero := some (.int .u64 0), offs := [], es := 0, n := 0, et := 0, feq := none, eb := 0 } := by kernel_rfl
@[go_sem] theorem lay_14 : lay Tryz.prog 14 = { kind := .struct, size := 2, zero := some (.agg [.str [], .int .u64 0]), offs := [(0, 1, 9), (1, 1, 12)], es := 0, n := 0, et := 0, feq := none, eb := 0 } := by kernel_rfl
@[go_sem] theorem lay_15 : lay Tryz.prog 15 = { kind := .ptr, size := 1, zero := some .nilp, offs := [], es := 0, n := 0, et := 0, feq := none, eb := 0 } := by kernel_rfl
@[go_sem] theorem lay_16 : lay Tryz.prog 16 = { kind := .ptr, size := 1, zero := some .nilp, offs := [], es := 0, n := 0, et := 0, feq := none, eb := 0 } := by kernel_rfl
@[go_sem] theorem lay_17 : lay Tryz.prog 17 = { kind := .ptr, size := 1, zero := some .nilp, offs := [], es := 0, n := 0, et := 0, feq := none, eb := 0 } := by kernel_rfl
@[go_sem] theorem lay_19 : lay Tryz.prog 19 = { kind := .struct, size := 1, zero := some (.agg [.nilp]), offs := [(0, 1, 17)], es := 0, n := 0, et := 0, feq := none, eb := 0 } := by kernel_rfl
@[go_sem] theorem lay_23 : lay Tryz.prog 23 = { kind := .slice, size := 1, zero := some .nils, offs := [], es := 9, n := 0, et := 62, feq := none, eb := 136 } := by kernel_rfl
@[go_sem] theorem lay_24 : lay Tryz.prog 24 = { kind := .slice, size := 1, zero := some .nils, offs := [], es := 26, n := 0, et := 50, feq := none, eb := 384 } := by kernel_rfl
@[go_sem] theorem lay_26 : lay Tryz.prog 26 = { kind := .struct, size := 2, zero := some (.agg [.nils, .nils]), offs := [(0, 1, 23), (1, 1, 24)], es := 0, n := 0, et := 0, feq := none, eb := 0 } := by kernel_rfl
@[go_sem] theorem lay_28 : lay Tryz.prog 28 = { kind := .struct, size := 3, zero := some (.agg [.nils, .nils, .str []]), offs := [(0, 2, 26), (2, 1, 9)], es := 0, n := 0, et := 0, feq := none, eb := 0 } := by kernel_rfl
@[go_sem] theorem lay_29 : lay Tryz.prog 29 = { kind := .other, size := 1, zero := some (.int .i64 0), offs := [], es := 0, n := 0, et := 0, feq := none, eb := 0 } := by kernel_rfl
@[go_sem] theorem lay_31 : lay Tryz.prog 31 = { kind := .struct, size := 2, zero := some (.agg [.int .i64 0, .int .i64 0]), offs := [(0, 1, 29), (1, 1, 3)], es := 0, n := 0, et := 0, feq := some [(1, .int), (1, .int)], eb := 0 } := by kernel_rfl
@[go_sem] theorem lay_44 : lay Tryz.prog 44 = { kind := .struct, size := 2, zero := some (.agg [.str [], .int .i64 0]), offs := [(0, 1, 9), (1, 1, 3)], es := 0, n := 0, et := 0, feq := some [(1, .str), (1, .int)], eb := 0 } := by kernel_rfl
@[go_sem] theorem lay_45 : lay Tryz.prog 45 = { kind := .slice, size := 1, zero := some .nils, offs := [], es := 5, n := 0, et := 47, feq := none, eb := 72 } := by kernel_rfl
@[go_sem] theorem lay_47 : lay Tryz.prog 47 = { kind := .struct, size := 5, zero := some (.agg [.str [], .int .i64 0, .str [], .int .i64 0, .nils]), offs := [(0, 1, 9), (1, 1, 3), (2, 1, 9), (3, 1, 3), (4, 1, 45)], es := 0, n := 0, et := 0, feq := none, eb := 0 } := by kernel_rfl
@[go_sem] theorem lay_48 : lay Tryz.prog 48 = { kind := .slice, size := 1, zero := some .nils, offs := [], es := 2, n := 0, et := 44, feq := none, eb := 24 } := by kernel_rfl
@[go_sem] theorem lay_50 : lay Tryz.prog 50 = { kind := .struct, size := 26, zero := some (.agg [.str [], .int .i64 0, .str [], .int .i64 0, .str [], .int .i64 0, .str [], .int .i64 0, .nils, .str [], .int .i64 0, .str [], .int .i64 0, .nils, .str [], .int .i64 0, .str [], .int .i64 0, .nils, .nils, .str [], .int .i64 0, .str [], .int .i64 0, .nils, .nils]), offs := [(0, 1, 9), (1, 1, 3), (2, 2, 44), (4, 5, 47), (9, 5, 47), (14, 5, 47), (19, 1, 48), (20, 2, 44), (22, 2, 44), (24, 1, 24), (25, 1, 24)], es := 0, n := 0, et := 0, feq := none, eb := 0 } := by kernel_rfl
@[go_sem] theorem lay_51 : lay Tryz.prog 51 = { kind := .slice, size := 1, zero := some .nils, offs := [], es := 4, n := 0, et := 58, feq := none, eb := 40 } := by kernel_rfl
@[go_sem] theorem lay_54 : lay Tryz.prog 54 = { kind := .ptr, size := 1, zero := some .nilp, offs := [], es := 0, n := 0, et := 0, feq := none, eb := 0 } := by kernel_rfl
@[go_sem] theorem lay_56 : lay Tryz.prog 56 = { kind := .struct, size := 7, zero := some (.agg [.nils, .int .i64 0, .int .i64 0, .int .i64 0, .bool false, .int .i64 0, .int .i64 0]), offs := [(0, 1, 51), (1, 1, 3), (2, 1, 3), (3, 1, 3), (4, 1, 4), (5, 2, 31)], es := 0, n := 0, et := 0, feq := none, eb := 0 } := by kernel_rfl
@[go_sem] theorem lay_58 : lay Tryz.prog 58 = { kind := .struct, size := 4, zero := some (.agg [.int .i64 0, .str [], .int .i64 0, .int .i64 0]), offs := [(0, 1, 3), (1, 1, 9), (2, 1, 3), (3, 1, 3)], es := 0, n := 0, et := 0, feq := some [(1, .int), (1, .str), (1, .int), (1, .int)], eb := 0 } := by kernel_rfl
@[go_sem] theorem lay_60 : lay Tryz.prog 60 = { kind := .slice, size := 1, zero := some .nils, offs := [], es := 12, n := 0, et := 69, feq := none, eb := 168 } := by kernel_rfl
@[go_sem] theorem lay_62 : lay Tryz.prog 62 = { kind := .struct, size := 9, zero := some (.agg [.str [], .str [], .int .i64 0, .str [], .int .i64 0, .str [], .int .i64 0, .nils, .nils]), offs := [(0, 1, 9), (1, 2, 44), (3, 5, 47), (8, 1, 60)], es := 0, n := 0, et := 0, feq := none, eb := 0 } := by kernel_rfl
@[go_sem] theorem lay_69 : lay Tryz.prog 69 = { kind := .struct, size := 12, zero := some (.agg [.str [], .int .i64 0, .str [], .int .i64 0, .str [], .int .i64 0, .nils, .str [], .int .i64 0, .str [], .int .i64 0, .nils]), offs := [(0, 2, 44), (2, 5, 47), (7, 5, 47)], es := 0, n := 0, et := 0, feq := none, eb := 0 } := by kernel_rfl
@[go_sem] theorem lay_79 : lay Tryz.prog 79 = { kind := .ptr, size := 1, zero := some .nilp, offs := [], es := 0, n := 0, et := 0, feq := none, eb := 0 } := by kernel_rfl
@[go_sem] theorem lay_82 : lay Tryz.prog 82 = { kind := .ptr, size := 1, zero := some .nilp, offs := [], es := 0, n := 0, et := 0, feq := none, eb := 0 } := by kernel_rfl
@[go_sem] theorem lay_84 : lay Tryz.prog 84 = { kind := .struct, size := 5, zero := some (.agg [.nilp, .int .i64 0, .int .i64 0, .int .i64 0, .int .i64 0]), offs := [(0, 1, 79), (1, 2, 31), (3, 1, 3), (4, 1, 3)], es := 0, n := 0, et := 0, feq := none, eb := 0 } := by kernel_rfl
@[go_sem] theorem lay_89 : lay Tryz.prog 89 = { kind := .ptr, size := 1, zero := some .nilp, offs := [], es := 0, n := 0, et := 0, feq := none, eb := 0 } := by kernel_rfl
@[go_sem] theorem lay_90 : lay Tryz.prog 90 = { kind := .slice, size := 1, zero := some .nils, offs := [], es := 1, n := 0, et := 5, feq := none, eb := 1 } := by kernel_rfl
@[go_sem] theorem lay_92 : lay Tryz.prog 92 = { kind := .struct, size := 2, zero := some (.agg [.nilp, .nils]), offs := [(0, 1, 89), (1, 1, 90)], es := 0, n := 0, et := 0, feq := none, eb := 0 } := by kernel_rfl
@[go_sem] theorem lay_94 : lay Tryz.prog 94 = { kind := .struct, size := 2, zero := some (.agg [.nilp, .nils]), offs := [(0, 2, 92)], es := 0, n := 0, et := 0, feq := none, eb := 0 } := by kernel_rfl
@[go_sem] theorem lay_110 : lay Tryz.prog 110 = { kind := .struct, size := 2, zero := some (.agg [.nils, .int .i64 0]), offs := [(0, 1, 51), (1, 1, 3)], es := 0, n := 0, et := 0, feq := none, eb := 0 } := by kernel_rfl
@[go_sem] theorem lay_111 : lay Tryz.prog 111 = { kind := .slice, size := 1, zero := some .nils, offs := [], es := 1, n := 0, et := 9, feq := none, eb := 16 } := by kernel_rfl
@[go_sem] theorem lay_115 : lay Tryz.prog 115 = { kind := .ptr, size := 1, zero := some .nilp, offs := [], es := 0, n := 0, et := 0, feq := none, eb := 0 } := by kernel_rfl
@[go_sem] theorem lay_116 : lay Tryz.prog 116 = { kind := .ptr, size := 1, zero := some .nilp, offs := [], es := 0, n := 0, et := 0, feq := none, eb := 0 } := by kernel_rfl
@[go_sem] theorem lay_121 : lay Tryz.prog 121 = { kind := .ptr, size := 1, zero := some .nilp, offs := [], es := 0, n := 0, et := 0, feq := none, eb := 0 } := by kernel_rfl
@[go_sem] theorem lay_123 : lay Tryz.prog 123 = { kind := .array, size := 10, zero := some (.agg [.str [], .str [], .str [], .str [], .str [], .str [], .str [], .str [], .str [], .str []]), offs := [], es := 1, n := 10, et := 9, feq := some [(10, .str)], eb := 0 } := by kernel_rfl
@[go_sem] theorem lay_127 : lay Tryz.prog 127 = { kind := .ptr, size := 1, zero := some .nilp, offs := [], es := 0, n := 0, et := 0, feq := none, eb := 0 } := by kernel_rfl
@[go_sem] theorem lay_129 : lay Tryz.prog 129 = { kind := .struct, size := 3, zero := some (.agg [.str [], .int .i64 0, .nils]), offs := [(0, 1, 9), (1, 1, 3), (2, 1, 51)], es := 0, n := 0, et := 0, feq := none, eb := 0 } := by kernel_rfl
@[go_sem] theorem lay_144 : lay Tryz.prog 144 = { kind := .other, size := 1, zero := some (.int .u64 0), offs := [], es := 0, n := 0, et := 0, feq := none, eb := 0 } := by kernel_rfl
@[go_sem] theorem lay_153 : lay Tryz.prog 153 = { kind := .other, size := 1, zero := some .nilp, offs := [], es := 0, n := 0, et := 0, feq := none, eb := 0 } := by kernel_rfl
@[go_sem] theorem lay_156 : lay Tryz.prog 156 = { kind := .other, size := 1, zero := some (.int .u32 0), offs := [], es := 0, n := 0, et := 0, feq := none, eb := 0 } := by kernel_rfl
@[go_sem] theorem lay_159 : lay Tryz.prog 159 = { kind := .other, size := 1, zero := some (.int .u64 0), offs := [], es := 0, n := 0, et := 0, feq := none, eb := 0 } := by kernel_rfl
@[go_sem] theorem lay_162 : lay Tryz.prog 162 = { kind := .array, size := 24, zero := some (.agg [.int .u8 0, .int .u8 0, .int .u8 0, .int .u8 0, .int .u8 0, .int .u8 0, .int .u8 0, .int .u8 0, .int .u8 0, .int .u8 0, .int .u8 0, .int .u8 0, .int .u8 0, .int .u8 0, .int .u8 0, .int .u8 0, .int .u8 0, .int .u8 0, .int .u8 0, .int .u8 0, .int .u8 0, .int .u8 0, .int .u8 0, .int .u8 0]), offs := [], es := 1, n := 24, et := 5, feq := some [(24, .int)], eb := 0 } := by kernel_rfl
@[go_sem] theorem und_2 : Tryz.prog.underlying 2 = some (.int .i64) := by kernel_rfl
@[go_sem] theorem und_3 : Tryz.prog.underlying 3 = some (.int .i64) := by kernel_rfl
@[go_sem] theorem und_5 : Tryz.prog.underlying 5 = some (.int .u8) := by kernel_rfl
@[go_sem] theorem und_9 : Tryz.prog.underlying 9 = some .string := by kernel_rfl
@[go_sem] theorem und_90 : Tryz.prog.underlying 90 = some (.slice 5) := by kernel_rfl
@[go_sem] theorem und_144 : Tryz.prog.underlying 144 = some (.int .u64) := by kernel_rfl
@[go_sem] theorem und_156 : Tryz.prog.underlying 156 = some (.int .u32) := by kernel_rfl
@[go_sem] theorem und_159 : Tryz.prog.underlying 159 = some (.int .u64) := by kernel_rfl
@[go_sem] theorem bsz_5 : (Tryz.prog.info? 5).any (·.size == 1) = true := by kernel_rfl
end Sh
