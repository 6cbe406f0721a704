/-
The law's function.
-/
import Derived.Test.YtkccojijhaajmaaGreatDoorTB3
import Derived.Test.YtkccojijhaajmaaGreatDoorTB10
import Derived.Test.YtkccojijhaajmaaGreatDoorTBp
set_option linter.unusedSimpArgs false
set_option linter.unusedVariables false
set_option linter.unusedSectionVars false
set_option maxRecDepth 1000000
set_option maxHeartbeats 4000000
set_option linter.unusedSimpArgs false
set_option linter.unusedVariables false
namespace Sh
open Go Go.Proofs
theorem awake_call : callN cx 400 5 [] [] = some (.bool true, []) := by kernel_rfl
theorem awake_spec : acall cx 5 [] [] = some (.bool true, []) := acall_le cx 400 5 [] [] _ awake_call
theorem TreeBare_spec (s : Source) (h : s.bulk < 4294967296) (hf : s.fits) (hlen : s.prt.length ≤ 4611686018427387904) : acall cx 4 [.agg s.cells] [] = some (.bool true, []) := by
  have hb := Stmt.countL_le s.body
  have h1 : s.bare.bulk < 4294967296 := by rw [Source.bare_bulk]; exact h
  have h2 : Stmt.bulkL s.body < 4294967296 := by unfold Source.bulk at h; omega
  have e1 := Placed_spec s h
  have e2 := Print_spec s h hf hlen
  have e3 := Bare_spec s h
  have e4 := Same_spec s.bare s false h1
  have e5 := Placed_spec s.bare h1
  have e6 := count_spec 4294967296 s.body h2 (Nat.le_refl _)
  have e7 := countR_spec 4294967296 s.body h2 (Nat.le_refl _)
  rw [Source.bare_same] at e4
  rw [Source.bare_placed] at e5
  rw [acall_of rfl Tryz.func4 rfl]
  conv => lhs; simp -dsimp -implicitDefEqProofs +decide (maxSteps := 1000000) (disch := first | (with_reducible apply regOK_mk; kernel_rfl) | (with_reducible apply lenIs_mk; first | rfl | (simp only [go_sem])) | omega) [go_sem, -getElem?_pos, -List.length_flatMap, awake_spec, e1, e2, e3, e4, e5, e6, e7]
  skip
end Sh
