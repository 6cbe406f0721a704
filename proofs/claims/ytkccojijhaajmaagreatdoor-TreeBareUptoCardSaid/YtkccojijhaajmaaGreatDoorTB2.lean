/-
Trees without places: what the functions compute, over the interpreter.
-/
import Derived.Test.YtkccojijhaajmaaGreatDoorTB1
set_option linter.unusedSimpArgs false
set_option linter.unusedVariables false
set_option linter.unusedSectionVars false
set_option maxRecDepth 100000
set_option maxHeartbeats 4000000
set_option linter.unusedSimpArgs false
set_option linter.unusedVariables false
namespace Sh
open Go Go.Proofs
theorem bareStmts_spec : ∀ (n : Nat) (l : List Stmt), Stmt.bulkL l < n → n ≤ 4294967296 → acall cx 32 [.dsl (l.map Stmt.av)] [] = some (.dsl ((Stmt.bareL l).map Stmt.av), []) := by
  intro n
  induction n with
  | zero => intro e h; omega
  | succ n ih =>
    intro l h hn
    have hl := Stmt.len_bulkL l
    have hB := bareExpr_spec n
    rw [acall_of rfl Tryz.func32 rfl]
    conv => lhs; simp -dsimp -implicitDefEqProofs +decide (maxSteps := 1000000) (disch := first | (with_reducible apply regOK_mk; kernel_rfl) | (with_reducible apply lenIs_mk; first | rfl | (simp only [go_sem])) | omega) [go_sem, -getElem?_pos, -List.length_flatMap]
    refine loop_list l (fun i (acc : List Stmt) => ([(3, accV 0 26 acc.length), (9, .dsl (l.map Stmt.av)), (10, .int .i64 l.length), (11, .int .i64 i)], accB acc.length (acc.flatMap Stmt.cells)))
       (fun i acc => acc.length = i) (fun post acc => some (.dsl ((acc ++ Stmt.bareL post).map Stmt.av), [])) ?_ ?_ [] rfl
    · intro i acc hi hI
      rw [lpc_eq]
      rcases hc : acc.length with _ | m
      · obtain rfl := List.length_eq_zero_iff.1 hc
        simp -dsimp -implicitDefEqProofs +decide (maxSteps := 1000000) (disch := first | (with_reducible apply regOK_mk; kernel_rfl) | (with_reducible apply lenIs_mk; first | rfl | (simp only [go_sem])) | omega) [go_sem, -getElem?_pos, -List.length_flatMap, hi, Stmt.bareL, accV, accB]
      · simp -dsimp -implicitDefEqProofs +decide (maxSteps := 1000000) (disch := first | (with_reducible apply regOK_mk; kernel_rfl) | (with_reducible apply lenIs_mk; first | rfl | (simp only [go_sem])) | omega) [go_sem, -getElem?_pos, -List.length_flatMap, hi, Stmt.bareL, accV, accB, hc]
    · intro i x r acc hd hx hi hm hI hnext
      have hnext := hnext (acc ++ [x.bare]) (by simp [hI])
      have hbm := Stmt.bulk_mem hm
      have hbe := x.bulk_eq
      have hlr := Ref.len_bulkL x.routes
      rw [lpc_eq]
      rcases hc : acc.length with _ | m
      · obtain rfl := List.length_eq_zero_iff.1 hc
        conv => lhs; simp -dsimp -implicitDefEqProofs +decide (maxSteps := 1000000) (disch := first | (with_reducible apply regOK_mk; kernel_rfl) | (with_reducible apply lenIs_mk; first | rfl | (simp only [go_sem])) | omega) [go_sem, -getElem?_pos, -List.length_flatMap, hx, accV, accB, hB, bareRef_spec]
        refine Eq.trans (loop_list x.routes (fun j (rs : List Ref) => ([(3, .nils), (5, .ptr 0 0), (6, .ptr 1 0), (9, .dsl (l.map Stmt.av)), (10, .int .i64 l.length), (11, .int .i64 i), (40, .dsl (x.routes.map Ref.av)), (41, .int .i64 x.routes.length), (42, .int .i64 j)],
            [some ⟨x.cells, false, false, none⟩, some ⟨[.str x.kind, .int .i64 0, .str x.name.bare.name, .int .i64 x.name.bare.pos, .str x.a.bare.op, .int .i64 x.a.bare.num, .str x.a.bare.text, .int .i64 x.a.bare.pos, .dsl (x.a.bare.args.map Ex.av), .str x.b.bare.op, .int .i64 x.b.bare.num, .str x.b.bare.text, .int .i64 x.b.bare.pos, .dsl (x.b.bare.args.map Ex.av), .str x.c.bare.op, .int .i64 x.c.bare.num, .str x.c.bare.text, .int .i64 x.c.bare.pos, .dsl (x.c.bare.args.map Ex.av), accV 2 2 rs.length, .str x.block.bare.name, .int .i64 x.block.bare.pos, .str x.tag.bare.name, .int .i64 x.tag.bare.pos, .nils, .nils], false, false, none⟩] ++ accB rs.length (rs.flatMap Ref.cells)))
          (fun j rs => rs.length = j ∧ rs = (x.routes.take j).map Ref.bare) (fun _ _ => some (.dsl ((x.bare :: Stmt.bareL r).map Stmt.av), [])) ?_ ?_ [] ⟨rfl, by simp⟩) ?_
        · intro j rs hj hrs
          obtain ⟨hrl, hrs⟩ := hrs
          have hrs' : rs = x.routes.map Ref.bare := by rw [hrs, ← hj, List.take_length]
          have hnext := hnext
          rw [Stmt.bare_eq, ← hrs'] at hnext
          rw [Stmt.bare_eq, ← hrs', lpc_eq]
          rcases hrc : rs.length with _ | k
          · obtain rfl := List.length_eq_zero_iff.1 hrc
            simp -dsimp -implicitDefEqProofs +decide (maxSteps := 1000000) (disch := first | (with_reducible apply regOK_mk; kernel_rfl) | (with_reducible apply lenIs_mk; first | rfl | (simp only [go_sem])) | omega) [go_sem, -getElem?_pos, -List.length_flatMap, accV, accB] at hnext
            simp -dsimp -implicitDefEqProofs +decide (maxSteps := 1000000) (disch := first | (with_reducible apply regOK_mk; kernel_rfl) | (with_reducible apply lenIs_mk; first | rfl | (simp only [go_sem])) | omega) [go_sem, -getElem?_pos, -List.length_flatMap, hj, ih, accV, accB, hnext]
          · simp -dsimp -implicitDefEqProofs +decide (maxSteps := 1000000) (disch := first | (with_reducible apply regOK_mk; kernel_rfl) | (with_reducible apply lenIs_mk; first | rfl | (simp only [go_sem])) | omega) [go_sem, -getElem?_pos, -List.length_flatMap, accV, accB, hrc] at hnext
            simp -dsimp -implicitDefEqProofs +decide (maxSteps := 1000000) (disch := first | (with_reducible apply regOK_mk; kernel_rfl) | (with_reducible apply lenIs_mk; first | rfl | (simp only [go_sem])) | omega) [go_sem, -getElem?_pos, -List.length_flatMap, hj, ih, accV, accB, hrc, hnext]
        · intro j y r2 rs hd2 hy hj hm2 hrs hnext2
          obtain ⟨hrl, hrs⟩ := hrs
          have hnext2 := hnext2 (rs ++ [y.bare]) ⟨by simp [hrl], by rw [hrs, List.take_add_one, hy]; simp⟩
          rw [lpc_eq]
          rcases hrc : rs.length with _ | k
          · obtain rfl := List.length_eq_zero_iff.1 hrc
            simp -dsimp -implicitDefEqProofs +decide (maxSteps := 1000000) (disch := first | (with_reducible apply regOK_mk; kernel_rfl) | (with_reducible apply lenIs_mk; first | rfl | (simp only [go_sem])) | omega) [go_sem, -getElem?_pos, -List.length_flatMap, accV, accB] at hnext2
            simp -dsimp -implicitDefEqProofs +decide (maxSteps := 1000000) (disch := first | (with_reducible apply regOK_mk; kernel_rfl) | (with_reducible apply lenIs_mk; first | rfl | (simp only [go_sem])) | omega) [go_sem, -getElem?_pos, -List.length_flatMap, hy, accV, accB, bareRef_spec, hnext2]
          · simp -dsimp -implicitDefEqProofs +decide (maxSteps := 1000000) (disch := first | (with_reducible apply regOK_mk; kernel_rfl) | (with_reducible apply lenIs_mk; first | rfl | (simp only [go_sem])) | omega) [go_sem, -getElem?_pos, -List.length_flatMap, accV, accB, hrc] at hnext2
            simp -dsimp -implicitDefEqProofs +decide (maxSteps := 1000000) (disch := first | (with_reducible apply regOK_mk; kernel_rfl) | (with_reducible apply lenIs_mk; first | rfl | (simp only [go_sem])) | omega) [go_sem, -getElem?_pos, -List.length_flatMap, hy, accV, accB, bareRef_spec, hnext2, hrc]
        · simp [Stmt.bareL]
      · conv => lhs; simp -dsimp -implicitDefEqProofs +decide (maxSteps := 1000000) (disch := first | (with_reducible apply regOK_mk; kernel_rfl) | (with_reducible apply lenIs_mk; first | rfl | (simp only [go_sem])) | omega) [go_sem, -getElem?_pos, -List.length_flatMap, hx, accV, accB, hc, hB, bareRef_spec]
        refine Eq.trans (loop_list x.routes (fun j (rs : List Ref) => ([(3, .lsl 0 0 (m + 1) none 26), (5, .ptr 1 0), (6, .ptr 2 0), (9, .dsl (l.map Stmt.av)), (10, .int .i64 l.length), (11, .int .i64 i), (40, .dsl (x.routes.map Ref.av)), (41, .int .i64 x.routes.length), (42, .int .i64 j)],
            [some ⟨acc.flatMap Stmt.cells, true, true, none⟩, some ⟨x.cells, false, false, none⟩, some ⟨[.str x.kind, .int .i64 0, .str x.name.bare.name, .int .i64 x.name.bare.pos, .str x.a.bare.op, .int .i64 x.a.bare.num, .str x.a.bare.text, .int .i64 x.a.bare.pos, .dsl (x.a.bare.args.map Ex.av), .str x.b.bare.op, .int .i64 x.b.bare.num, .str x.b.bare.text, .int .i64 x.b.bare.pos, .dsl (x.b.bare.args.map Ex.av), .str x.c.bare.op, .int .i64 x.c.bare.num, .str x.c.bare.text, .int .i64 x.c.bare.pos, .dsl (x.c.bare.args.map Ex.av), accV 3 2 rs.length, .str x.block.bare.name, .int .i64 x.block.bare.pos, .str x.tag.bare.name, .int .i64 x.tag.bare.pos, .nils, .nils], false, false, none⟩] ++ accB rs.length (rs.flatMap Ref.cells)))
          (fun j rs => rs.length = j ∧ rs = (x.routes.take j).map Ref.bare) (fun _ _ => some (.dsl ((acc ++ x.bare :: Stmt.bareL r).map Stmt.av), [])) ?_ ?_ [] ⟨rfl, by simp⟩) ?_
        · intro j rs hj hrs
          obtain ⟨hrl, hrs⟩ := hrs
          have hrs' : rs = x.routes.map Ref.bare := by rw [hrs, ← hj, List.take_length]
          have hnext := hnext
          rw [Stmt.bare_eq, ← hrs'] at hnext
          rw [Stmt.bare_eq, ← hrs', lpc_eq]
          rcases hrc : rs.length with _ | k
          · obtain rfl := List.length_eq_zero_iff.1 hrc
            simp -dsimp -implicitDefEqProofs +decide (maxSteps := 1000000) (disch := first | (with_reducible apply regOK_mk; kernel_rfl) | (with_reducible apply lenIs_mk; first | rfl | (simp only [go_sem])) | omega) [go_sem, -getElem?_pos, -List.length_flatMap, accV, accB, hc] at hnext
            simp -dsimp -implicitDefEqProofs +decide (maxSteps := 1000000) (disch := first | (with_reducible apply regOK_mk; kernel_rfl) | (with_reducible apply lenIs_mk; first | rfl | (simp only [go_sem])) | omega) [go_sem, -getElem?_pos, -List.length_flatMap, hj, ih, accV, accB, hc, hnext]
          · simp -dsimp -implicitDefEqProofs +decide (maxSteps := 1000000) (disch := first | (with_reducible apply regOK_mk; kernel_rfl) | (with_reducible apply lenIs_mk; first | rfl | (simp only [go_sem])) | omega) [go_sem, -getElem?_pos, -List.length_flatMap, accV, accB, hc, hrc] at hnext
            simp -dsimp -implicitDefEqProofs +decide (maxSteps := 1000000) (disch := first | (with_reducible apply regOK_mk; kernel_rfl) | (with_reducible apply lenIs_mk; first | rfl | (simp only [go_sem])) | omega) [go_sem, -getElem?_pos, -List.length_flatMap, hj, ih, accV, accB, hc, hrc, hnext]
        · intro j y r2 rs hd2 hy hj hm2 hrs hnext2
          obtain ⟨hrl, hrs⟩ := hrs
          have hnext2 := hnext2 (rs ++ [y.bare]) ⟨by simp [hrl], by rw [hrs, List.take_add_one, hy]; simp⟩
          rw [lpc_eq]
          rcases hrc : rs.length with _ | k
          · obtain rfl := List.length_eq_zero_iff.1 hrc
            simp -dsimp -implicitDefEqProofs +decide (maxSteps := 1000000) (disch := first | (with_reducible apply regOK_mk; kernel_rfl) | (with_reducible apply lenIs_mk; first | rfl | (simp only [go_sem])) | omega) [go_sem, -getElem?_pos, -List.length_flatMap, accV, accB, hc] at hnext2
            simp -dsimp -implicitDefEqProofs +decide (maxSteps := 1000000) (disch := first | (with_reducible apply regOK_mk; kernel_rfl) | (with_reducible apply lenIs_mk; first | rfl | (simp only [go_sem])) | omega) [go_sem, -getElem?_pos, -List.length_flatMap, hy, accV, accB, hc, bareRef_spec, hnext2]
          · simp -dsimp -implicitDefEqProofs +decide (maxSteps := 1000000) (disch := first | (with_reducible apply regOK_mk; kernel_rfl) | (with_reducible apply lenIs_mk; first | rfl | (simp only [go_sem])) | omega) [go_sem, -getElem?_pos, -List.length_flatMap, accV, accB, hc, hrc] at hnext2
            simp -dsimp -implicitDefEqProofs +decide (maxSteps := 1000000) (disch := first | (with_reducible apply regOK_mk; kernel_rfl) | (with_reducible apply lenIs_mk; first | rfl | (simp only [go_sem])) | omega) [go_sem, -getElem?_pos, -List.length_flatMap, hy, accV, accB, hc, bareRef_spec, hnext2, hrc]
        · simp [Stmt.bareL]
end Sh
