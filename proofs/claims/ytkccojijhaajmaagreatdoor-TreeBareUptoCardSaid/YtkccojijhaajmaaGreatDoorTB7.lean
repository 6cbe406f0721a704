/-
Trees: their text, statement by statement.
-/
import Derived.Test.YtkccojijhaajmaaGreatDoorTB6
set_option linter.unusedSimpArgs false
set_option linter.unusedVariables false
set_option linter.unusedSectionVars false
set_option maxRecDepth 100000
set_option maxHeartbeats 4000000
set_option linter.unusedSimpArgs false
set_option linter.unusedVariables false
namespace Sh
open Go Go.Proofs

theorem expr_spec : ∀ (n : Nat) (e : Ex) (i : Int), e.bulk < n → n ≤ 4294967296 → e.fits → acall cx 25 [.agg e.cells, .int .i64 i] [] = some (.str (e.pr i), []) := by
  intro n
  induction n with
  | zero => intro e i h; omega
  | succ n ih =>
    intro e i h hn hf
    have hb := e.bulk_eq
    have hl := Ex.len_bulkL e.args
    have hf' := hf
    rw [Ex.fits_eq] at hf'
    have hD := digits_spec e.num hf'.1
    have hQ := quote_spec e.text (by omega)
    rw [acall_of rfl Tryz.func25 rfl, Ex.pr_eq]
    by_cases h1 : e.op = [110, 117, 109, 98, 101, 114]
    · simp -dsimp -implicitDefEqProofs +decide (maxSteps := 1000000) (disch := first | (with_reducible apply regOK_mk; kernel_rfl) | (with_reducible apply lenIs_mk; first | rfl | (simp only [go_sem])) | omega) [go_sem, -getElem?_pos, -List.length_flatMap, h1, hD]
    by_cases h2 : e.op = [110, 97, 109, 101]
    · simp -dsimp -implicitDefEqProofs +decide (maxSteps := 1000000) (disch := first | (with_reducible apply regOK_mk; kernel_rfl) | (with_reducible apply lenIs_mk; first | rfl | (simp only [go_sem])) | omega) [go_sem, -getElem?_pos, -List.length_flatMap, h1, h2]
    by_cases h3 : e.op = [116, 101, 120, 116]
    · rcases he : e.text.isEmpty with _ | _
      · simp -dsimp -implicitDefEqProofs +decide (maxSteps := 1000000) (disch := first | (with_reducible apply regOK_mk; kernel_rfl) | (with_reducible apply lenIs_mk; first | rfl | (simp only [go_sem])) | omega) [go_sem, -getElem?_pos, -List.length_flatMap, h1, h2, h3, hQ, he]
      · have he' : e.text = [] := by simpa using he
        rw [he'] at hQ
        simp -dsimp -implicitDefEqProofs +decide (maxSteps := 1000000) (disch := first | (with_reducible apply regOK_mk; kernel_rfl) | (with_reducible apply lenIs_mk; first | rfl | (simp only [go_sem])) | omega) [go_sem, -getElem?_pos, -List.length_flatMap, h1, h2, h3, he', hQ]
        simp -dsimp -implicitDefEqProofs +decide (maxSteps := 1000000) (disch := first | (with_reducible apply regOK_mk; kernel_rfl) | (with_reducible apply lenIs_mk; first | rfl | (simp only [go_sem])) | omega) [go_sem, -getElem?_pos, -List.length_flatMap] at hQ
        simp -dsimp -implicitDefEqProofs +decide (maxSteps := 1000000) (disch := first | (with_reducible apply regOK_mk; kernel_rfl) | (with_reducible apply lenIs_mk; first | rfl | (simp only [go_sem])) | omega) [go_sem, -getElem?_pos, -List.length_flatMap, hQ]
    by_cases h4 : e.op = [106, 111, 105, 110]
    · conv => lhs; simp -dsimp -implicitDefEqProofs +decide (maxSteps := 1000000) (disch := first | (with_reducible apply regOK_mk; kernel_rfl) | (with_reducible apply lenIs_mk; first | rfl | (simp only [go_sem])) | omega) [go_sem, -getElem?_pos, -List.length_flatMap, h1, h2, h3, h4]
      have hlen := Ex.pr_len (n + 1) e 0 h hf
      have hpr : e.pr 0 = [106, 111, 105, 110, 40] ++ (Ex.prJ e.args ++ [41]) := by rw [Ex.pr_eq]; simp [h4]
      rw [hpr] at hlen
      simp only [List.length_append, List.length_cons, List.length_nil] at hlen
      refine Eq.trans (loop_list e.args (fun j (s : List UInt8 × Bool) => ([(2, .ptr 0 0), (5, .str s.1), (6, .int .i64 j)], [some ⟨e.cells, false, false, none⟩])) (fun j s => s.2 = decide (j = 0) ∧ s.1.length + (if s.2 then Ex.prJ (e.args.drop j) else Ex.prT (e.args.drop j)).length ≤ 5 + (Ex.prJ e.args).length) (fun post s => some (.str (s.1 ++ ((if s.2 then Ex.prJ post else Ex.prT post) ++ [41])), [])) ?_ ?_ ([106, 111, 105, 110, 40], true) ⟨rfl, by simp⟩) (by simp [h1, h2, h3, h4])
      · rintro j ⟨acc, fl⟩ hj ⟨hI, hJ⟩
        dsimp only at hI hJ ⊢
        have hq : acc.length + 1 ≤ 9223372036854775807 := by omega
        rw [lpc_eq]
        cases fl <;> simp -dsimp -implicitDefEqProofs +decide (maxSteps := 1000000) (disch := first | (with_reducible apply regOK_mk; kernel_rfl) | (with_reducible apply lenIs_mk; first | rfl | (simp only [go_sem])) | omega) [go_sem, -getElem?_pos, -List.length_flatMap, hj, Ex.prJ, Ex.prT, hq]
      · rintro j x r ⟨acc, fl⟩ hd hx hj hm ⟨hI, hJ⟩ hnext
        dsimp only at hI hJ ⊢
        rw [hd] at hJ
        have hbm := Ex.bulk_mem hm
        have hxf := Ex.fits_mem hf'.2 hm
        rw [lpc_eq]
        cases fl
        · have h0 : 0 < j := by
            have := of_decide_eq_false hI.symm; omega
          clear hI
          simp only [Bool.false_eq_true, if_false, Ex.prT, List.length_append, List.length_cons, List.length_nil] at hJ
          have hnext := hnext (acc ++ ([44, 32] ++ x.pr 0), false) ⟨by simp, by rw [(drop_cons hd).2.2]; simp only [Bool.false_eq_true, if_false, List.length_append, List.length_cons, List.length_nil]; omega⟩
          simp -dsimp -implicitDefEqProofs +decide (maxSteps := 1000000) (disch := first | (with_reducible apply regOK_mk; kernel_rfl) | (with_reducible apply lenIs_mk; first | rfl | (simp only [go_sem])) | omega) [go_sem, -getElem?_pos, -List.length_flatMap, Ex.prT] at hnext
          have hq : acc.length + 2 + (x.pr 0).length ≤ 9223372036854775807 := by omega
          simp -dsimp -implicitDefEqProofs +decide (maxSteps := 1000000) (disch := first | (with_reducible apply regOK_mk; kernel_rfl) | (with_reducible apply lenIs_mk; first | rfl | (simp only [go_sem])) | omega) [go_sem, -getElem?_pos, -List.length_flatMap, hx, Ex.prT, ih x 0 (by omega) (by omega) hxf, hq, hnext, h0]
        · have h0 : j = 0 := of_decide_eq_true hI.symm
          subst h0
          clear hI
          simp only [if_true, Ex.prJ, List.length_append, List.length_cons, List.length_nil] at hJ
          have hnext := hnext (acc ++ x.pr 0, false) ⟨by simp, by rw [(drop_cons hd).2.2]; simp only [Bool.false_eq_true, if_false, List.length_append]; omega⟩
          simp -dsimp -implicitDefEqProofs +decide (maxSteps := 1000000) (disch := first | (with_reducible apply regOK_mk; kernel_rfl) | (with_reducible apply lenIs_mk; first | rfl | (simp only [go_sem])) | omega) [go_sem, -getElem?_pos, -List.length_flatMap, Ex.prJ] at hnext
          have hq : acc.length + (x.pr 0).length ≤ 9223372036854775807 := by omega
          simp -dsimp -implicitDefEqProofs +decide (maxSteps := 1000000) (disch := first | (with_reducible apply regOK_mk; kernel_rfl) | (with_reducible apply lenIs_mk; first | rfl | (simp only [go_sem])) | omega) [go_sem, -getElem?_pos, -List.length_flatMap, hx, Ex.prJ, ih x 0 (by omega) (by omega) hxf, hq, hnext]
    by_cases h7 : e.args.length = 2
    · obtain ⟨a, b, hab⟩ : ∃ a b, e.args = [a, b] := by
        match e.args, h7 with
        | [a, b], _ => exact ⟨a, b, rfl⟩
      rw [hab] at hb hf'
      simp only [Ex.bulkL] at hb
      have fa : a.fits := hf'.2.1
      have fb : b.fits := hf'.2.2.1
      have ha1 := Ex.pr_len n a 1 (by omega) fa
      have ha2 := Ex.pr_len n a 2 (by omega) fa
      have hb2 := Ex.pr_len n b 2 (by omega) fb
      have hb3 := Ex.pr_len n b 3 (by omega) fb
      have ia1 := ih a 1 (by omega) (by omega) fa
      have ia2 := ih a 2 (by omega) (by omega) fa
      have ib2 := ih b 2 (by omega) (by omega) fb
      have ib3 := ih b 3 (by omega) (by omega) fb
      rw [hab, Ex.pr2_two, Ex.pr2_two]
      by_cases h5 : e.op = [43]
      · by_cases h8 : 2 ≤ i
        · simp -dsimp -implicitDefEqProofs +decide (maxSteps := 1000000) (disch := first | (with_reducible apply regOK_mk; kernel_rfl) | (with_reducible apply lenIs_mk; first | rfl | (simp only [go_sem])) | omega) [go_sem, -getElem?_pos, -List.length_flatMap, h5, hab, ia1, ib2, h8, bin, paren]
        · simp -dsimp -implicitDefEqProofs +decide (maxSteps := 1000000) (disch := first | (with_reducible apply regOK_mk; kernel_rfl) | (with_reducible apply lenIs_mk; first | rfl | (simp only [go_sem])) | omega) [go_sem, -getElem?_pos, -List.length_flatMap, h5, hab, ia1, ib2, h8, bin, paren]
      by_cases h6 : e.op = [45]
      · by_cases h8 : 2 ≤ i
        · simp -dsimp -implicitDefEqProofs +decide (maxSteps := 1000000) (disch := first | (with_reducible apply regOK_mk; kernel_rfl) | (with_reducible apply lenIs_mk; first | rfl | (simp only [go_sem])) | omega) [go_sem, -getElem?_pos, -List.length_flatMap, h6, hab, ia1, ib2, h8, bin, paren]
        · simp -dsimp -implicitDefEqProofs +decide (maxSteps := 1000000) (disch := first | (with_reducible apply regOK_mk; kernel_rfl) | (with_reducible apply lenIs_mk; first | rfl | (simp only [go_sem])) | omega) [go_sem, -getElem?_pos, -List.length_flatMap, h6, hab, ia1, ib2, h8, bin, paren]
      by_cases h9 : e.op = [42]
      · by_cases h8 : 3 ≤ i
        · simp -dsimp -implicitDefEqProofs +decide (maxSteps := 1000000) (disch := first | (with_reducible apply regOK_mk; kernel_rfl) | (with_reducible apply lenIs_mk; first | rfl | (simp only [go_sem])) | omega) [go_sem, -getElem?_pos, -List.length_flatMap, h9, hab, ia2, ib3, h8, bin, paren]
        · simp -dsimp -implicitDefEqProofs +decide (maxSteps := 1000000) (disch := first | (with_reducible apply regOK_mk; kernel_rfl) | (with_reducible apply lenIs_mk; first | rfl | (simp only [go_sem])) | omega) [go_sem, -getElem?_pos, -List.length_flatMap, h9, hab, ia2, ib3, h8, bin, paren]
      · simp -dsimp -implicitDefEqProofs +decide (maxSteps := 1000000) (disch := first | (with_reducible apply regOK_mk; kernel_rfl) | (with_reducible apply lenIs_mk; first | rfl | (simp only [go_sem])) | omega) [go_sem, -getElem?_pos, -List.length_flatMap, h1, h2, h3, h4, h5, h6, h9]
    · rw [Ex.pr2_not h7, Ex.pr2_not h7]
      by_cases h5 : e.op = [43]
      · simp -dsimp -implicitDefEqProofs +decide (maxSteps := 1000000) (disch := first | (with_reducible apply regOK_mk; kernel_rfl) | (with_reducible apply lenIs_mk; first | rfl | (simp only [go_sem])) | omega) [go_sem, -getElem?_pos, -List.length_flatMap, h5, h7]
      by_cases h6 : e.op = [45]
      · simp -dsimp -implicitDefEqProofs +decide (maxSteps := 1000000) (disch := first | (with_reducible apply regOK_mk; kernel_rfl) | (with_reducible apply lenIs_mk; first | rfl | (simp only [go_sem])) | omega) [go_sem, -getElem?_pos, -List.length_flatMap, h6, h7]
      by_cases h9 : e.op = [42]
      · simp -dsimp -implicitDefEqProofs +decide (maxSteps := 1000000) (disch := first | (with_reducible apply regOK_mk; kernel_rfl) | (with_reducible apply lenIs_mk; first | rfl | (simp only [go_sem])) | omega) [go_sem, -getElem?_pos, -List.length_flatMap, h9, h7]
      · simp -dsimp -implicitDefEqProofs +decide (maxSteps := 1000000) (disch := first | (with_reducible apply regOK_mk; kernel_rfl) | (with_reducible apply lenIs_mk; first | rfl | (simp only [go_sem])) | omega) [go_sem, -getElem?_pos, -List.length_flatMap, h1, h2, h3, h4, h5, h6, h9]
end Sh
