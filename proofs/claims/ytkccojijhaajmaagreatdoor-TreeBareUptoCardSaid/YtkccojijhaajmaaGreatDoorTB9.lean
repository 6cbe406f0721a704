/-
Trees: statements and sources printed.
-/
import Derived.Test.YtkccojijhaajmaaGreatDoorTB8
set_option linter.unusedSimpArgs false
set_option linter.unusedVariables false
set_option linter.unusedSectionVars false
set_option maxRecDepth 100000
set_option maxHeartbeats 4000000
set_option linter.unusedSimpArgs false
set_option linter.unusedVariables false
namespace Sh
open Go Go.Proofs

theorem stmts_spec : ∀ (n : Nat) (l : List Stmt) (inn : List UInt8), Stmt.bulkL l < n → n ≤ 4294967296 → Stmt.fitsL l → (Stmt.prts l inn).length ≤ 4611686018427387904 → acall cx 27 [.dsl (l.map Stmt.av), .str inn] [] = some (.str (Stmt.prts l inn), []) := by
  intro n
  induction n with
  | zero => intro l inn h; omega
  | succ n ih =>
    intro l inn h hn hf hlen
    have hl := Stmt.len_bulkL l
    rw [acall_of rfl Tryz.func27 rfl]
    conv => lhs; simp -dsimp -implicitDefEqProofs +decide (maxSteps := 1000000) (disch := first | (with_reducible apply regOK_mk; kernel_rfl) | (with_reducible apply lenIs_mk; first | rfl | (simp only [go_sem])) | omega) [go_sem, -getElem?_pos, -List.length_flatMap]
    refine Eq.trans (loop_list l (fun i (acc : List UInt8) => ([(0, .dsl (l.map Stmt.av)), (1, .str inn), (5, .str acc), (6, .int .i64 i)], [])) (fun i acc => acc.length + (Stmt.prts (l.drop i) inn).length ≤ 4611686018427387904) (fun post acc => some (.str (acc ++ Stmt.prts post inn), [])) ?_ ?_ [] (by simpa using hlen)) rfl
    · intro i acc hi hI
      rw [lpc_eq]
      simp -dsimp -implicitDefEqProofs +decide (maxSteps := 1000000) (disch := first | (with_reducible apply regOK_mk; kernel_rfl) | (with_reducible apply lenIs_mk; first | rfl | (simp only [go_sem])) | omega) [go_sem, -getElem?_pos, -List.length_flatMap, hi, Stmt.prts]
    · intro i x r acc hd hx hi hm hI hnext
      rw [hd] at hI
      have hnext := hnext (acc ++ x.prt inn) (by rw [(drop_cons hd).2.2]; simp only [Stmt.prts, List.length_append] at hI ⊢; omega)
      have hbm := Stmt.bulk_mem hm
      have hbe := x.bulk_eq
      have hxf := Stmt.fits_mem hf hm
      rw [Stmt.fits_eq] at hxf
      have hL := line_spec x (by omega) hxf.1
      rw [Stmt.prts, Stmt.prt_eq]
      rw [Stmt.prts, Stmt.prt_eq] at hI
      rw [Stmt.prt_eq] at hnext
      rcases hln : x.line with ⟨t, b⟩
      rw [hln] at hL hI hnext
      dsimp only at hL hI hnext ⊢
      rw [lpc_eq]
      cases b
      · simp only [Bool.false_eq_true, if_false, List.length_append, List.length_cons, List.length_nil] at hI hnext ⊢
        have q1 : acc.length + inn.length ≤ 9223372036854775807 := by omega
        have q2 : acc.length + inn.length + t.length ≤ 9223372036854775807 := by omega
        simp -dsimp -implicitDefEqProofs +decide (maxSteps := 1000000) (disch := first | (with_reducible apply regOK_mk; kernel_rfl) | (with_reducible apply lenIs_mk; first | rfl | (simp only [go_sem])) | omega) [go_sem, -getElem?_pos, -List.length_flatMap] at hnext
        simp -dsimp -implicitDefEqProofs +decide (maxSteps := 1000000) (disch := first | (with_reducible apply regOK_mk; kernel_rfl) | (with_reducible apply lenIs_mk; first | rfl | (simp only [go_sem])) | omega) [go_sem, -getElem?_pos, -List.length_flatMap, hx, hL, q1, q2, hnext]
      · simp only [if_true, List.length_append, List.length_cons, List.length_nil] at hI hnext ⊢
        have q1 : acc.length + inn.length ≤ 9223372036854775807 := by omega
        have q2 : acc.length + inn.length + t.length ≤ 9223372036854775807 := by omega
        have iB := ih x.body (inn ++ [32, 32]) (by omega) (by omega) hxf.2.1 (by omega)
        by_cases h1 : x.kind = [105, 102]
        · by_cases h2 : x.els.length = 0
          · have h2' : x.els = [] := List.length_eq_zero_iff.1 h2
            simp only [h1, h2, ne_eq, not_true_eq_false, and_false, if_false, List.length_nil] at hI hnext ⊢
            simp -dsimp -implicitDefEqProofs +decide (maxSteps := 1000000) (disch := first | (with_reducible apply regOK_mk; kernel_rfl) | (with_reducible apply lenIs_mk; first | rfl | (simp only [go_sem])) | omega) [go_sem, -getElem?_pos, -List.length_flatMap] at hnext
            simp -dsimp -implicitDefEqProofs +decide (maxSteps := 1000000) (disch := first | (with_reducible apply regOK_mk; kernel_rfl) | (with_reducible apply lenIs_mk; first | rfl | (simp only [go_sem])) | omega) [go_sem, -getElem?_pos, -List.length_flatMap, hx, hL, q1, q2, hnext, iB, h1, h2, h2']
          · simp only [h1, h2, ne_eq, not_false_eq_true, and_self, if_true, List.length_append, List.length_cons, List.length_nil] at hI hnext ⊢
            have iE := ih x.els (inn ++ [32, 32]) (by omega) (by omega) hxf.2.2 (by omega)
            have h2' : 0 < x.els.length := by omega
            simp -dsimp -implicitDefEqProofs +decide (maxSteps := 1000000) (disch := first | (with_reducible apply regOK_mk; kernel_rfl) | (with_reducible apply lenIs_mk; first | rfl | (simp only [go_sem])) | omega) [go_sem, -getElem?_pos, -List.length_flatMap] at hnext
            simp -dsimp -implicitDefEqProofs +decide (maxSteps := 1000000) (disch := first | (with_reducible apply regOK_mk; kernel_rfl) | (with_reducible apply lenIs_mk; first | rfl | (simp only [go_sem])) | omega) [go_sem, -getElem?_pos, -List.length_flatMap, hx, hL, q1, q2, hnext, iB, iE, h1, h2, h2']
        · simp only [h1, ne_eq, false_and, if_false, List.length_nil] at hI hnext ⊢
          simp -dsimp -implicitDefEqProofs +decide (maxSteps := 1000000) (disch := first | (with_reducible apply regOK_mk; kernel_rfl) | (with_reducible apply lenIs_mk; first | rfl | (simp only [go_sem])) | omega) [go_sem, -getElem?_pos, -List.length_flatMap] at hnext
          simp -dsimp -implicitDefEqProofs +decide (maxSteps := 1000000) (disch := first | (with_reducible apply regOK_mk; kernel_rfl) | (with_reducible apply lenIs_mk; first | rfl | (simp only [go_sem])) | omega) [go_sem, -getElem?_pos, -List.length_flatMap, hx, hL, q1, q2, hnext, iB, h1]
end Sh
