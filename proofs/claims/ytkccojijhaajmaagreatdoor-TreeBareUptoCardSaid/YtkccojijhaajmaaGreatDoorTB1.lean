/-
Trees: what the functions of trees compute, over the interpreter.
-/
import Derived.Test.YtkccojijhaajmaaGreatDoorT1Lay
import Derived.Test.YtkccojijhaajmaaGreatDoorTB0
set_option linter.unusedSimpArgs false
set_option linter.unusedVariables false
set_option linter.unusedSectionVars false
set_option maxRecDepth 100000
set_option maxHeartbeats 4000000
set_option linter.unusedSimpArgs false
set_option linter.unusedVariables false
namespace Sh
open Go Go.Proofs

theorem placed_spec : ∀ (n : Nat) (e : Ex), e.bulk < n → n ≤ 4294967296 → acall cx 28 [.agg e.cells] [] = some (.bool e.placed, []) := by
  intro n
  induction n with
  | zero => intro e h; omega
  | succ n ih =>
    intro e h hn
    have hb := e.bulk_eq
    have hl := Ex.len_bulkL e.args
    rw [acall_of rfl Tryz.func28 rfl, Ex.placed_eq]
    by_cases ha : e.pos = 0
    · simp -dsimp -implicitDefEqProofs +decide (maxSteps := 1000000) (disch := first | (with_reducible apply regOK_mk; kernel_rfl) | (with_reducible apply lenIs_mk; first | rfl | (simp only [go_sem])) | omega) [go_sem, -getElem?_pos, -List.length_flatMap, ha]
      refine loop_list e.args (fun i (_ : Unit) => ([(1, .ptr 0 0), (3, .int .i64 i)], [some ⟨e.cells, false, false, none⟩])) (fun _ _ => True) (fun post _ => some (.bool (Ex.placedL post), [])) ?_ ?_ () trivial
      · intro i s hi _
        rw [lpc_eq]
        simp -dsimp -implicitDefEqProofs +decide (maxSteps := 1000000) (disch := first | (with_reducible apply regOK_mk; kernel_rfl) | (with_reducible apply lenIs_mk; first | rfl | (simp only [go_sem])) | omega) [go_sem, -getElem?_pos, -List.length_flatMap, hi, Ex.placedL]
      · intro i x r s hd hx hi hm _ hnext
        have hnext := hnext () trivial
        have hbm := Ex.bulk_mem hm
        rw [lpc_eq]
        cases hp : x.placed <;>
        simp -dsimp -implicitDefEqProofs +decide (maxSteps := 1000000) (disch := first | (with_reducible apply regOK_mk; kernel_rfl) | (with_reducible apply lenIs_mk; first | rfl | (simp only [go_sem])) | omega) [go_sem, -getElem?_pos, -List.length_flatMap, hx, Ex.placedL, ih, hp, hnext]
    · simp -dsimp -implicitDefEqProofs +decide (maxSteps := 1000000) (disch := first | (with_reducible apply regOK_mk; kernel_rfl) | (with_reducible apply lenIs_mk; first | rfl | (simp only [go_sem])) | omega) [go_sem, -getElem?_pos, -List.length_flatMap, ha]

theorem bareRef_spec (r : Ref) : acall cx 30 [.agg r.cells] [] = some (.agg r.bare.cells, []) := by
  rw [acall_of rfl Tryz.func30 rfl, Ref.bare]
  simp -dsimp -implicitDefEqProofs +decide (maxSteps := 1000000) (disch := first | (with_reducible apply regOK_mk; kernel_rfl) | (with_reducible apply lenIs_mk; first | rfl | (simp only [go_sem])) | omega) [go_sem, -getElem?_pos, -List.length_flatMap]

theorem bareExpr_spec : ∀ (n : Nat) (e : Ex), e.bulk < n → n ≤ 4294967296 → acall cx 31 [.agg e.cells] [] = some (.agg e.bare.cells, []) := by
  intro n
  induction n with
  | zero => intro e h; omega
  | succ n ih =>
    intro e h hn
    have hb := e.bulk_eq
    have hl := Ex.len_bulkL e.args
    rw [acall_of rfl Tryz.func31 rfl, Ex.bare_eq]
    conv => lhs; simp -dsimp -implicitDefEqProofs +decide (maxSteps := 1000000) (disch := first | (with_reducible apply regOK_mk; kernel_rfl) | (with_reducible apply lenIs_mk; first | rfl | (simp only [go_sem])) | omega) [go_sem, -getElem?_pos, -List.length_flatMap]
    refine loop_list e.args (fun i (acc : List Ex) => ([(2, .ptr 0 0), (3, .ptr 1 0), (14, .dsl (e.args.map Ex.av)), (15, .int .i64 e.args.length), (16, .int .i64 i)], [some ⟨[.str [], .int .i64 0, .str [], .int .i64 0, .nils], false, false, none⟩, some ⟨[.str e.op, .int .i64 e.num, .str e.text, .int .i64 0, accV 2 5 acc.length], false, false, none⟩] ++ accB acc.length (acc.flatMap Ex.cells)))
       (fun i acc => acc.length = i) (fun post acc => some (.agg (Ex.mk e.op e.num e.text 0 (acc ++ Ex.bareL post)).cells, [])) ?_ ?_ [] rfl
    · intro i acc hi hI
      rw [lpc_eq]
      rcases hc : acc.length with _ | m
      · obtain rfl := List.length_eq_zero_iff.1 hc
        simp -dsimp -implicitDefEqProofs +decide (maxSteps := 1000000) (disch := first | (with_reducible apply regOK_mk; kernel_rfl) | (with_reducible apply lenIs_mk; first | rfl | (simp only [go_sem])) | omega) [go_sem, -getElem?_pos, -List.length_flatMap, hi, Ex.bareL, accV, accB]
      · simp -dsimp -implicitDefEqProofs +decide (maxSteps := 1000000) (disch := first | (with_reducible apply regOK_mk; kernel_rfl) | (with_reducible apply lenIs_mk; first | rfl | (simp only [go_sem])) | omega) [go_sem, -getElem?_pos, -List.length_flatMap, hi, Ex.bareL, accV, accB, hc]
    · intro i x r acc hd hx hi hm hI hnext
      have hnext := hnext (acc ++ [x.bare]) (by simp [hI])
      have hbm := Ex.bulk_mem hm
      rw [lpc_eq]
      rcases hc : acc.length with _ | m
      · obtain rfl := List.length_eq_zero_iff.1 hc
        simp -dsimp -implicitDefEqProofs +decide (maxSteps := 1000000) (disch := first | (with_reducible apply regOK_mk; kernel_rfl) | (with_reducible apply lenIs_mk; first | rfl | (simp only [go_sem])) | omega) [go_sem, -getElem?_pos, -List.length_flatMap, accV, accB] at hnext
        simp -dsimp -implicitDefEqProofs +decide (maxSteps := 1000000) (disch := first | (with_reducible apply regOK_mk; kernel_rfl) | (with_reducible apply lenIs_mk; first | rfl | (simp only [go_sem])) | omega) [go_sem, -getElem?_pos, -List.length_flatMap, hx, Ex.bareL, accV, accB, ih, hnext]
      · simp -dsimp -implicitDefEqProofs +decide (maxSteps := 1000000) (disch := first | (with_reducible apply regOK_mk; kernel_rfl) | (with_reducible apply lenIs_mk; first | rfl | (simp only [go_sem])) | omega) [go_sem, -getElem?_pos, -List.length_flatMap, accV, accB, hc] at hnext
        simp -dsimp -implicitDefEqProofs +decide (maxSteps := 1000000) (disch := first | (with_reducible apply regOK_mk; kernel_rfl) | (with_reducible apply lenIs_mk; first | rfl | (simp only [go_sem])) | omega) [go_sem, -getElem?_pos, -List.length_flatMap, hx, Ex.bareL, accV, accB, ih, hnext, hc]

theorem sameRef_spec (x y : Ref) (p : Bool) : acall cx 22 [.agg x.cells, .agg y.cells, .bool p] [] = some (.bool (x.same p y), []) := by
  rw [acall_of rfl Tryz.func22 rfl, Ref.same]
  by_cases h1 : x.name = y.name
  · cases p <;> simp -dsimp -implicitDefEqProofs +decide (maxSteps := 1000000) (disch := first | (with_reducible apply regOK_mk; kernel_rfl) | (with_reducible apply lenIs_mk; first | rfl | (simp only [go_sem])) | omega) [go_sem, -getElem?_pos, -List.length_flatMap, h1]
  · simp -dsimp -implicitDefEqProofs +decide (maxSteps := 1000000) (disch := first | (with_reducible apply regOK_mk; kernel_rfl) | (with_reducible apply lenIs_mk; first | rfl | (simp only [go_sem])) | omega) [go_sem, -getElem?_pos, -List.length_flatMap, h1]

theorem sameExpr_spec : ∀ (n : Nat) (x y : Ex) (p : Bool), x.bulk < n → n ≤ 4294967296 → acall cx 23 [.agg x.cells, .agg y.cells, .bool p] [] = some (.bool (x.same p y), []) := by
  intro n
  induction n with
  | zero => intro e _ _ h; omega
  | succ n ih =>
    intro x y p h hn
    have hb := x.bulk_eq
    have hl := Ex.len_bulkL x.args
    rw [acall_of rfl Tryz.func23 rfl, Ex.same_eq]
    by_cases h1 : x.op = y.op
    case neg => simp -dsimp -implicitDefEqProofs +decide (maxSteps := 1000000) (disch := first | (with_reducible apply regOK_mk; kernel_rfl) | (with_reducible apply lenIs_mk; first | rfl | (simp only [go_sem])) | omega) [go_sem, -getElem?_pos, -List.length_flatMap, h1]
    by_cases h2 : x.num = y.num
    case neg => simp -dsimp -implicitDefEqProofs +decide (maxSteps := 1000000) (disch := first | (with_reducible apply regOK_mk; kernel_rfl) | (with_reducible apply lenIs_mk; first | rfl | (simp only [go_sem])) | omega) [go_sem, -getElem?_pos, -List.length_flatMap, h1, h2]
    by_cases h3 : x.text = y.text
    case neg => simp -dsimp -implicitDefEqProofs +decide (maxSteps := 1000000) (disch := first | (with_reducible apply regOK_mk; kernel_rfl) | (with_reducible apply lenIs_mk; first | rfl | (simp only [go_sem])) | omega) [go_sem, -getElem?_pos, -List.length_flatMap, h1, h2, h3]
    by_cases h4 : p = true ∧ ¬ x.pos = y.pos
    · obtain ⟨rfl, h4⟩ := h4
      simp -dsimp -implicitDefEqProofs +decide (maxSteps := 1000000) (disch := first | (with_reducible apply regOK_mk; kernel_rfl) | (with_reducible apply lenIs_mk; first | rfl | (simp only [go_sem])) | omega) [go_sem, -getElem?_pos, -List.length_flatMap, h1, h2, h3, h4]
    by_cases h5 : x.args.length = y.args.length
    case neg =>
      cases p
      · simp -dsimp -implicitDefEqProofs +decide (maxSteps := 1000000) (disch := first | (with_reducible apply regOK_mk; kernel_rfl) | (with_reducible apply lenIs_mk; first | rfl | (simp only [go_sem])) | omega) [go_sem, -getElem?_pos, -List.length_flatMap, h1, h2, h3, h5]
      · simp at h4
        simp -dsimp -implicitDefEqProofs +decide (maxSteps := 1000000) (disch := first | (with_reducible apply regOK_mk; kernel_rfl) | (with_reducible apply lenIs_mk; first | rfl | (simp only [go_sem])) | omega) [go_sem, -getElem?_pos, -List.length_flatMap, h1, h2, h3, h4, h5]
    have hzl : (x.args.zip y.args).length = x.args.length := by simp [List.length_zip, h5]
    rw [Ex.sameL_zip]
    cases p
    · try simp at h4
      conv => lhs; simp -dsimp -implicitDefEqProofs +decide (maxSteps := 1000000) (disch := first | (with_reducible apply regOK_mk; kernel_rfl) | (with_reducible apply lenIs_mk; first | rfl | (simp only [go_sem])) | omega) [go_sem, -getElem?_pos, -List.length_flatMap, h1, h2, h3, h4, h5]
      refine Eq.trans (loop_list (x.args.zip y.args) (fun i (_ : Unit) => ([(2, .bool false), (3, .ptr 0 0), (4, .ptr 1 0), (7, .int .i64 i)], [some ⟨x.cells, false, false, none⟩, some ⟨y.cells, false, false, none⟩])) (fun _ _ => True) (fun post _ => some (.bool (post.all fun q => q.1.same false q.2), [])) ?_ ?_ () trivial) ?_
      · intro i s hi _
        rw [lpc_eq]
        simp -dsimp -implicitDefEqProofs +decide (maxSteps := 1000000) (disch := first | (with_reducible apply regOK_mk; kernel_rfl) | (with_reducible apply lenIs_mk; first | rfl | (simp only [go_sem])) | omega) [go_sem, -getElem?_pos, -List.length_flatMap, hi, hzl, List.all_nil]
      · intro i q r s hd hx hi hm _ hnext
        have hnext := hnext () trivial
        obtain ⟨q1, q2⟩ := q
        rw [List.getElem?_zip_eq_some] at hx
        obtain ⟨hx1, hx2⟩ := hx
        dsimp only at hx1 hx2
        have hbm := Ex.bulk_mem (List.mem_of_getElem? hx1)
        rw [lpc_eq]
        rcases hp : q1.same false q2 with _ | _ <;>
        simp -dsimp -implicitDefEqProofs +decide (maxSteps := 1000000) (disch := first | (with_reducible apply regOK_mk; kernel_rfl) | (with_reducible apply lenIs_mk; first | rfl | (simp only [go_sem])) | omega) [go_sem, -getElem?_pos, -List.length_flatMap, hx1, hx2, ih, hp, hnext, List.all_cons]
      · simp [h1, h2, h3, h4, h5]
    · try simp at h4
      conv => lhs; simp -dsimp -implicitDefEqProofs +decide (maxSteps := 1000000) (disch := first | (with_reducible apply regOK_mk; kernel_rfl) | (with_reducible apply lenIs_mk; first | rfl | (simp only [go_sem])) | omega) [go_sem, -getElem?_pos, -List.length_flatMap, h1, h2, h3, h4, h5]
      refine Eq.trans (loop_list (x.args.zip y.args) (fun i (_ : Unit) => ([(2, .bool true), (3, .ptr 0 0), (4, .ptr 1 0), (7, .int .i64 i)], [some ⟨x.cells, false, false, none⟩, some ⟨y.cells, false, false, none⟩])) (fun _ _ => True) (fun post _ => some (.bool (post.all fun q => q.1.same true q.2), [])) ?_ ?_ () trivial) ?_
      · intro i s hi _
        rw [lpc_eq]
        simp -dsimp -implicitDefEqProofs +decide (maxSteps := 1000000) (disch := first | (with_reducible apply regOK_mk; kernel_rfl) | (with_reducible apply lenIs_mk; first | rfl | (simp only [go_sem])) | omega) [go_sem, -getElem?_pos, -List.length_flatMap, hi, hzl, List.all_nil]
      · intro i q r s hd hx hi hm _ hnext
        have hnext := hnext () trivial
        obtain ⟨q1, q2⟩ := q
        rw [List.getElem?_zip_eq_some] at hx
        obtain ⟨hx1, hx2⟩ := hx
        dsimp only at hx1 hx2
        have hbm := Ex.bulk_mem (List.mem_of_getElem? hx1)
        rw [lpc_eq]
        rcases hp : q1.same true q2 with _ | _ <;>
        simp -dsimp -implicitDefEqProofs +decide (maxSteps := 1000000) (disch := first | (with_reducible apply regOK_mk; kernel_rfl) | (with_reducible apply lenIs_mk; first | rfl | (simp only [go_sem])) | omega) [go_sem, -getElem?_pos, -List.length_flatMap, hx1, hx2, ih, hp, hnext, List.all_cons]
      · simp [h1, h2, h3, h4, h5]

theorem sameRefs_spec (x y : List Ref) (p : Bool) (h : Ref.bulkL x ≤ 4294967296) : acall cx 54 [.dsl (x.map Ref.av), .dsl (y.map Ref.av), .bool p] [] = some (.bool (Ref.sameL p x y), []) := by
  have hl := Ref.len_bulkL x
  rw [acall_of rfl Tryz.func54 rfl, Ref.sameL]
  by_cases h5 : x.length = y.length
  case neg => simp -dsimp -implicitDefEqProofs +decide (maxSteps := 1000000) (disch := first | (with_reducible apply regOK_mk; kernel_rfl) | (with_reducible apply lenIs_mk; first | rfl | (simp only [go_sem])) | omega) [go_sem, -getElem?_pos, -List.length_flatMap, h5]
  have hzl : (x.zip y).length = x.length := by simp [List.length_zip, h5]
  conv => lhs; simp -dsimp -implicitDefEqProofs +decide (maxSteps := 1000000) (disch := first | (with_reducible apply regOK_mk; kernel_rfl) | (with_reducible apply lenIs_mk; first | rfl | (simp only [go_sem])) | omega) [go_sem, -getElem?_pos, -List.length_flatMap, h5]
  refine Eq.trans (loop_list (x.zip y) (fun i (_ : Unit) => ([(0, .dsl (x.map Ref.av)), (1, .dsl (y.map Ref.av)), (2, .bool p), (7, .int .i64 i)], [])) (fun _ _ => True) (fun post _ => some (.bool (post.all fun q => q.1.same p q.2), [])) ?_ ?_ () trivial) ?_
  · intro i s hi _
    rw [lpc_eq]
    simp -dsimp -implicitDefEqProofs +decide (maxSteps := 1000000) (disch := first | (with_reducible apply regOK_mk; kernel_rfl) | (with_reducible apply lenIs_mk; first | rfl | (simp only [go_sem])) | omega) [go_sem, -getElem?_pos, -List.length_flatMap, hi, hzl, List.all_nil]
  · intro i q r s hd hx hi hm _ hnext
    have hnext := hnext () trivial
    obtain ⟨q1, q2⟩ := q
    rw [List.getElem?_zip_eq_some] at hx
    obtain ⟨hx1, hx2⟩ := hx
    dsimp only at hx1 hx2
    rw [lpc_eq]
    rcases hp : q1.same p q2 with _ | _ <;>
    simp -dsimp -implicitDefEqProofs +decide (maxSteps := 1000000) (disch := first | (with_reducible apply regOK_mk; kernel_rfl) | (with_reducible apply lenIs_mk; first | rfl | (simp only [go_sem])) | omega) [go_sem, -getElem?_pos, -List.length_flatMap, hx1, hx2, sameRef_spec, hp, hnext, List.all_cons]
  · simp [h5]

theorem count_spec : ∀ (n : Nat) (l : List Stmt), Stmt.bulkL l < n → n ≤ 4294967296 → acall cx 12 [.dsl (l.map Stmt.av)] [] = some (.int .i64 (Stmt.countL l), []) := by
  intro n
  induction n with
  | zero => intro e h; omega
  | succ n ih =>
    intro l h hn
    have hl := Stmt.len_bulkL l
    have hc := Stmt.countL_le l
    have hx0 := Stmt.countL_ex l
    rw [acall_of rfl Tryz.func12 rfl]
    conv => lhs; simp -dsimp -implicitDefEqProofs +decide (maxSteps := 1000000) (disch := first | (with_reducible apply regOK_mk; kernel_rfl) | (with_reducible apply lenIs_mk; first | rfl | (simp only [go_sem])) | omega) [go_sem, -getElem?_pos, -List.length_flatMap]
    refine Eq.trans (loop_list l (fun i (acc : Nat) => ([(3, .int .i64 acc), (8, .dsl (l.map Stmt.av)), (9, .int .i64 l.length), (10, .int .i64 i)], [])) (fun i acc => acc + Stmt.exL (l.drop i) ≤ Stmt.countL l) (fun post acc => some (.int .i64 ((acc : Int) + Stmt.exL post), [])) ?_ ?_ l.length (by simp; omega)) ?_
    · intro i acc hi hI
      rw [lpc_eq]
      simp -dsimp -implicitDefEqProofs +decide (maxSteps := 1000000) (disch := first | (with_reducible apply regOK_mk; kernel_rfl) | (with_reducible apply lenIs_mk; first | rfl | (simp only [go_sem])) | omega) [go_sem, -getElem?_pos, -List.length_flatMap, hi, Stmt.exL]
    · intro i x r acc hd hx hi hm hI hnext
      rw [hd] at hI
      simp only [Stmt.exL] at hI
      have hnext := hnext (acc + (Stmt.countL x.body + Stmt.countL x.els)) (by rw [(drop_cons hd).2.2]; omega)
      have hbm := Stmt.bulk_mem hm
      have hbe := x.bulk_eq
      rw [lpc_eq]
      simp -dsimp -implicitDefEqProofs +decide (maxSteps := 1000000) (disch := first | (with_reducible apply regOK_mk; kernel_rfl) | (with_reducible apply lenIs_mk; first | rfl | (simp only [go_sem])) | omega) [go_sem, -getElem?_pos, -List.length_flatMap, Stmt.exL] at hnext
      simp -dsimp -implicitDefEqProofs +decide (maxSteps := 1000000) (disch := first | (with_reducible apply regOK_mk; kernel_rfl) | (with_reducible apply lenIs_mk; first | rfl | (simp only [go_sem])) | omega) [go_sem, -getElem?_pos, -List.length_flatMap, hx, ih, hnext, Stmt.exL]
      try omega
    · rw [hx0]; simp

theorem countR_spec : ∀ (n : Nat) (l : List Stmt), Stmt.bulkL l < n → n ≤ 4294967296 → acall cx 13 [.dsl (l.map Stmt.av)] [] = some (.int .i64 (Stmt.countL l), []) := by
  intro n
  induction n with
  | zero => intro e h; omega
  | succ n ih =>
    intro l h hn
    have hl := Stmt.len_bulkL l
    have hc := Stmt.countL_le l
    rw [acall_of rfl Tryz.func13 rfl]
    conv => lhs; simp -dsimp -implicitDefEqProofs +decide (maxSteps := 1000000) (disch := first | (with_reducible apply regOK_mk; kernel_rfl) | (with_reducible apply lenIs_mk; first | rfl | (simp only [go_sem])) | omega) [go_sem, -getElem?_pos, -List.length_flatMap]
    refine Eq.trans (loop_list l (fun i (acc : Nat) => ([(0, .dsl (l.map Stmt.av)), (3, .int .i64 acc), (4, .int .i64 i)], [])) (fun i acc => acc + Stmt.countL (l.drop i) ≤ Stmt.countL l) (fun post acc => some (.int .i64 ((acc : Int) + Stmt.countL post), [])) ?_ ?_ 0 (by simp)) ?_
    · intro i acc hi hI
      rw [lpc_eq]
      simp -dsimp -implicitDefEqProofs +decide (maxSteps := 1000000) (disch := first | (with_reducible apply regOK_mk; kernel_rfl) | (with_reducible apply lenIs_mk; first | rfl | (simp only [go_sem])) | omega) [go_sem, -getElem?_pos, -List.length_flatMap, hi, Stmt.countL]
    · intro i x r acc hd hx hi hm hI hnext
      rw [hd] at hI
      simp only [Stmt.countL, Stmt.count_eq] at hI
      have hnext := hnext (acc + 1 + Stmt.countL x.body + Stmt.countL x.els) (by rw [(drop_cons hd).2.2]; omega)
      have hbm := Stmt.bulk_mem hm
      have hbe := x.bulk_eq
      rw [lpc_eq]
      simp -dsimp -implicitDefEqProofs +decide (maxSteps := 1000000) (disch := first | (with_reducible apply regOK_mk; kernel_rfl) | (with_reducible apply lenIs_mk; first | rfl | (simp only [go_sem])) | omega) [go_sem, -getElem?_pos, -List.length_flatMap, Stmt.countL, Stmt.count_eq] at hnext
      simp -dsimp -implicitDefEqProofs +decide (maxSteps := 1000000) (disch := first | (with_reducible apply regOK_mk; kernel_rfl) | (with_reducible apply lenIs_mk; first | rfl | (simp only [go_sem])) | omega) [go_sem, -getElem?_pos, -List.length_flatMap, hx, ih, hnext, Stmt.countL, Stmt.count_eq]
      try omega
    · simp

theorem placedStmts_spec : ∀ (n : Nat) (l : List Stmt), Stmt.bulkL l < n → n ≤ 4294967296 → acall cx 29 [.dsl (l.map Stmt.av)] [] = some (.bool (Stmt.placedL l), []) := by
  intro n
  induction n with
  | zero => intro e h; omega
  | succ n ih =>
    intro l h hn
    have hl := Stmt.len_bulkL l
    have hP := placed_spec n
    rw [acall_of rfl Tryz.func29 rfl]
    conv => lhs; simp -dsimp -implicitDefEqProofs +decide (maxSteps := 1000000) (disch := first | (with_reducible apply regOK_mk; kernel_rfl) | (with_reducible apply lenIs_mk; first | rfl | (simp only [go_sem])) | omega) [go_sem, -getElem?_pos, -List.length_flatMap]
    refine loop_list l (fun i (_ : Unit) => ([(0, .dsl (l.map Stmt.av)), (3, .int .i64 i)], [])) (fun _ _ => True) (fun post _ => some (.bool (Stmt.placedL post), [])) ?_ ?_ () trivial
    · intro i s hi _
      rw [lpc_eq]
      simp -dsimp -implicitDefEqProofs +decide (maxSteps := 1000000) (disch := first | (with_reducible apply regOK_mk; kernel_rfl) | (with_reducible apply lenIs_mk; first | rfl | (simp only [go_sem])) | omega) [go_sem, -getElem?_pos, -List.length_flatMap, hi, Stmt.placedL]
    · intro i x r s hd hx hi hm _ hnext
      have hnext := hnext () trivial
      have hbm := Stmt.bulk_mem hm
      have hbe := x.bulk_eq
      rw [lpc_eq]
      by_cases h1 : x.pos = 0
      case neg => simp -dsimp -implicitDefEqProofs +decide (maxSteps := 1000000) (disch := first | (with_reducible apply regOK_mk; kernel_rfl) | (with_reducible apply lenIs_mk; first | rfl | (simp only [go_sem])) | omega) [go_sem, -getElem?_pos, -List.length_flatMap, hx, Stmt.placedL, Stmt.placed_eq, h1]
      by_cases h2 : x.name.pos = 0
      case neg => simp -dsimp -implicitDefEqProofs +decide (maxSteps := 1000000) (disch := first | (with_reducible apply regOK_mk; kernel_rfl) | (with_reducible apply lenIs_mk; first | rfl | (simp only [go_sem])) | omega) [go_sem, -getElem?_pos, -List.length_flatMap, hx, Stmt.placedL, Stmt.placed_eq, h1, h2]
      by_cases h3 : x.block.pos = 0
      case neg => simp -dsimp -implicitDefEqProofs +decide (maxSteps := 1000000) (disch := first | (with_reducible apply regOK_mk; kernel_rfl) | (with_reducible apply lenIs_mk; first | rfl | (simp only [go_sem])) | omega) [go_sem, -getElem?_pos, -List.length_flatMap, hx, Stmt.placedL, Stmt.placed_eq, h1, h2, h3]
      by_cases h4 : x.tag.pos = 0
      case neg => simp -dsimp -implicitDefEqProofs +decide (maxSteps := 1000000) (disch := first | (with_reducible apply regOK_mk; kernel_rfl) | (with_reducible apply lenIs_mk; first | rfl | (simp only [go_sem])) | omega) [go_sem, -getElem?_pos, -List.length_flatMap, hx, Stmt.placedL, Stmt.placed_eq, h1, h2, h3, h4]
      rcases h5 : x.a.placed with _ | _
      case true => simp -dsimp -implicitDefEqProofs +decide (maxSteps := 1000000) (disch := first | (with_reducible apply regOK_mk; kernel_rfl) | (with_reducible apply lenIs_mk; first | rfl | (simp only [go_sem])) | omega) [go_sem, -getElem?_pos, -List.length_flatMap, hx, Stmt.placedL, Stmt.placed_eq, h1, h2, h3, h4, hP, h5]
      rcases h6 : x.b.placed with _ | _
      case true => simp -dsimp -implicitDefEqProofs +decide (maxSteps := 1000000) (disch := first | (with_reducible apply regOK_mk; kernel_rfl) | (with_reducible apply lenIs_mk; first | rfl | (simp only [go_sem])) | omega) [go_sem, -getElem?_pos, -List.length_flatMap, hx, Stmt.placedL, Stmt.placed_eq, h1, h2, h3, h4, hP, h5, h6]
      rcases h7 : x.c.placed with _ | _
      case true => simp -dsimp -implicitDefEqProofs +decide (maxSteps := 1000000) (disch := first | (with_reducible apply regOK_mk; kernel_rfl) | (with_reducible apply lenIs_mk; first | rfl | (simp only [go_sem])) | omega) [go_sem, -getElem?_pos, -List.length_flatMap, hx, Stmt.placedL, Stmt.placed_eq, h1, h2, h3, h4, hP, h5, h6, h7]
      rcases h8 : Stmt.placedL x.body with _ | _
      case true => simp -dsimp -implicitDefEqProofs +decide (maxSteps := 1000000) (disch := first | (with_reducible apply regOK_mk; kernel_rfl) | (with_reducible apply lenIs_mk; first | rfl | (simp only [go_sem])) | omega) [go_sem, -getElem?_pos, -List.length_flatMap, hx, Stmt.placedL, Stmt.placed_eq, h1, h2, h3, h4, hP, h5, h6, h7, ih, h8]
      rcases h9 : Stmt.placedL x.els with _ | _
      case true => simp -dsimp -implicitDefEqProofs +decide (maxSteps := 1000000) (disch := first | (with_reducible apply regOK_mk; kernel_rfl) | (with_reducible apply lenIs_mk; first | rfl | (simp only [go_sem])) | omega) [go_sem, -getElem?_pos, -List.length_flatMap, hx, Stmt.placedL, Stmt.placed_eq, h1, h2, h3, h4, hP, h5, h6, h7, ih, h8, h9]
      have hlr := Ref.len_bulkL x.routes
      conv => lhs; simp -dsimp -implicitDefEqProofs +decide (maxSteps := 1000000) (disch := first | (with_reducible apply regOK_mk; kernel_rfl) | (with_reducible apply lenIs_mk; first | rfl | (simp only [go_sem])) | omega) [go_sem, -getElem?_pos, -List.length_flatMap, hx, Stmt.placedL, Stmt.placed_eq, h1, h2, h3, h4, hP, h5, h6, h7, ih, h8, h9]
      refine Eq.trans (loop_list x.routes (fun j (_ : Unit) => ([(0, .dsl (l.map Stmt.av)), (3, .int .i64 i), (4, .ptr 0 0), (5, .int .i64 j)], [some ⟨x.cells, false, false, none⟩])) (fun _ _ => True) (fun post _ => some (.bool (Ref.placedL post || Stmt.placedL r), [])) ?_ ?_ () trivial) ?_
      · intro j s hj _
        rw [lpc_eq]
        simp -dsimp -implicitDefEqProofs +decide (maxSteps := 1000000) (disch := first | (with_reducible apply regOK_mk; kernel_rfl) | (with_reducible apply lenIs_mk; first | rfl | (simp only [go_sem])) | omega) [go_sem, -getElem?_pos, -List.length_flatMap, hj, Ref.placedL, hnext]
      · intro j y r2 s hd2 hy hj hm2 _ hnext2
        have hnext2 := hnext2 () trivial
        rw [lpc_eq]
        by_cases hp : y.pos = 0 <;>
        simp -dsimp -implicitDefEqProofs +decide (maxSteps := 1000000) (disch := first | (with_reducible apply regOK_mk; kernel_rfl) | (with_reducible apply lenIs_mk; first | rfl | (simp only [go_sem])) | omega) [go_sem, -getElem?_pos, -List.length_flatMap, hy, Ref.placedL, hp, hnext2]
      · simp [Stmt.placedL, Stmt.placed_eq, h1, h2, h3, h4, h5, h6, h7, h8, h9]

theorem sameStmts_spec : ∀ (n : Nat) (x y : List Stmt) (p : Bool), Stmt.bulkL x < n → n ≤ 4294967296 → acall cx 24 [.dsl (x.map Stmt.av), .dsl (y.map Stmt.av), .bool p] [] = some (.bool (Stmt.sameB p x y), []) := by
  intro n
  induction n with
  | zero => intro e _ _ h; omega
  | succ n ih =>
    intro x y p h hn
    have hl := Stmt.len_bulkL x
    have hE := sameExpr_spec n
    rw [acall_of rfl Tryz.func24 rfl, Stmt.sameB]
    by_cases h5 : x.length = y.length
    case neg => simp -dsimp -implicitDefEqProofs +decide (maxSteps := 1000000) (disch := first | (with_reducible apply regOK_mk; kernel_rfl) | (with_reducible apply lenIs_mk; first | rfl | (simp only [go_sem])) | omega) [go_sem, -getElem?_pos, -List.length_flatMap, h5]
    have hzl : (x.zip y).length = x.length := by simp [List.length_zip, h5]
    rw [Stmt.sameL_zip]
    conv => lhs; simp -dsimp -implicitDefEqProofs +decide (maxSteps := 1000000) (disch := first | (with_reducible apply regOK_mk; kernel_rfl) | (with_reducible apply lenIs_mk; first | rfl | (simp only [go_sem])) | omega) [go_sem, -getElem?_pos, -List.length_flatMap, h5]
    refine Eq.trans (loop_list (x.zip y) (fun i (_ : Unit) => ([(0, .dsl (x.map Stmt.av)), (1, .dsl (y.map Stmt.av)), (2, .bool p), (7, .int .i64 i)], [])) (fun _ _ => True) (fun post _ => some (.bool (post.all fun q => q.1.same p q.2), [])) ?_ ?_ () trivial) (by simp [h5])
    · intro i s hi _
      rw [lpc_eq]
      simp -dsimp -implicitDefEqProofs +decide (maxSteps := 1000000) (disch := first | (with_reducible apply regOK_mk; kernel_rfl) | (with_reducible apply lenIs_mk; first | rfl | (simp only [go_sem])) | omega) [go_sem, -getElem?_pos, -List.length_flatMap, hi, hzl, List.all_nil]
    · intro i q r s hd hx hi hm _ hnext
      have hnext := hnext () trivial
      obtain ⟨q1, q2⟩ := q
      rw [List.getElem?_zip_eq_some] at hx
      obtain ⟨hx1, hx2⟩ := hx
      dsimp only at hx1 hx2
      have hbm := Stmt.bulk_mem (List.mem_of_getElem? hx1)
      have hbe := q1.bulk_eq
      rw [lpc_eq]
      by_cases h1 : q1.kind = q2.kind
      case neg => simp -dsimp -implicitDefEqProofs +decide (maxSteps := 1000000) (disch := first | (with_reducible apply regOK_mk; kernel_rfl) | (with_reducible apply lenIs_mk; first | rfl | (simp only [go_sem])) | omega) [go_sem, -getElem?_pos, -List.length_flatMap, hx1, hx2, List.all_cons, Stmt.same_eq, h1]
      by_cases h2 : p = true ∧ ¬ q1.pos = q2.pos
      · obtain ⟨rfl, h2⟩ := h2
        simp -dsimp -implicitDefEqProofs +decide (maxSteps := 1000000) (disch := first | (with_reducible apply regOK_mk; kernel_rfl) | (with_reducible apply lenIs_mk; first | rfl | (simp only [go_sem])) | omega) [go_sem, -getElem?_pos, -List.length_flatMap, hx1, hx2, List.all_cons, Stmt.same_eq, h1, h2]
      have h2' : (!p || decide (q1.pos = q2.pos)) = true := by cases p <;> simp_all
      rcases h3 : q1.name.same p q2.name with _ | _
      · cases p
        · simp -dsimp -implicitDefEqProofs +decide (maxSteps := 1000000) (disch := first | (with_reducible apply regOK_mk; kernel_rfl) | (with_reducible apply lenIs_mk; first | rfl | (simp only [go_sem])) | omega) [go_sem, -getElem?_pos, -List.length_flatMap, hx1, hx2, List.all_cons, Stmt.same_eq, h1, sameRef_spec, h3]
        · simp at h2
          simp -dsimp -implicitDefEqProofs +decide (maxSteps := 1000000) (disch := first | (with_reducible apply regOK_mk; kernel_rfl) | (with_reducible apply lenIs_mk; first | rfl | (simp only [go_sem])) | omega) [go_sem, -getElem?_pos, -List.length_flatMap, hx1, hx2, List.all_cons, Stmt.same_eq, h1, sameRef_spec, h3, h2]
      rcases h4 : q1.block.same p q2.block with _ | _
      · cases p
        · simp -dsimp -implicitDefEqProofs +decide (maxSteps := 1000000) (disch := first | (with_reducible apply regOK_mk; kernel_rfl) | (with_reducible apply lenIs_mk; first | rfl | (simp only [go_sem])) | omega) [go_sem, -getElem?_pos, -List.length_flatMap, hx1, hx2, List.all_cons, Stmt.same_eq, h1, sameRef_spec, h3, h4]
        · simp at h2
          simp -dsimp -implicitDefEqProofs +decide (maxSteps := 1000000) (disch := first | (with_reducible apply regOK_mk; kernel_rfl) | (with_reducible apply lenIs_mk; first | rfl | (simp only [go_sem])) | omega) [go_sem, -getElem?_pos, -List.length_flatMap, hx1, hx2, List.all_cons, Stmt.same_eq, h1, sameRef_spec, h3, h2, h4]
      rcases h6 : q1.tag.same p q2.tag with _ | _
      · cases p
        · simp -dsimp -implicitDefEqProofs +decide (maxSteps := 1000000) (disch := first | (with_reducible apply regOK_mk; kernel_rfl) | (with_reducible apply lenIs_mk; first | rfl | (simp only [go_sem])) | omega) [go_sem, -getElem?_pos, -List.length_flatMap, hx1, hx2, List.all_cons, Stmt.same_eq, h1, sameRef_spec, h3, h4, h6]
        · simp at h2
          simp -dsimp -implicitDefEqProofs +decide (maxSteps := 1000000) (disch := first | (with_reducible apply regOK_mk; kernel_rfl) | (with_reducible apply lenIs_mk; first | rfl | (simp only [go_sem])) | omega) [go_sem, -getElem?_pos, -List.length_flatMap, hx1, hx2, List.all_cons, Stmt.same_eq, h1, sameRef_spec, h3, h2, h4, h6]
      rcases h7 : q1.a.same p q2.a with _ | _
      · cases p
        · simp -dsimp -implicitDefEqProofs +decide (maxSteps := 1000000) (disch := first | (with_reducible apply regOK_mk; kernel_rfl) | (with_reducible apply lenIs_mk; first | rfl | (simp only [go_sem])) | omega) [go_sem, -getElem?_pos, -List.length_flatMap, hx1, hx2, List.all_cons, Stmt.same_eq, h1, sameRef_spec, h3, h4, h6, hE, h7]
        · simp at h2
          simp -dsimp -implicitDefEqProofs +decide (maxSteps := 1000000) (disch := first | (with_reducible apply regOK_mk; kernel_rfl) | (with_reducible apply lenIs_mk; first | rfl | (simp only [go_sem])) | omega) [go_sem, -getElem?_pos, -List.length_flatMap, hx1, hx2, List.all_cons, Stmt.same_eq, h1, sameRef_spec, h3, h2, h4, h6, hE, h7]
      rcases h8 : q1.b.same p q2.b with _ | _
      · cases p
        · simp -dsimp -implicitDefEqProofs +decide (maxSteps := 1000000) (disch := first | (with_reducible apply regOK_mk; kernel_rfl) | (with_reducible apply lenIs_mk; first | rfl | (simp only [go_sem])) | omega) [go_sem, -getElem?_pos, -List.length_flatMap, hx1, hx2, List.all_cons, Stmt.same_eq, h1, sameRef_spec, h3, h4, h6, hE, h7, h8]
        · simp at h2
          simp -dsimp -implicitDefEqProofs +decide (maxSteps := 1000000) (disch := first | (with_reducible apply regOK_mk; kernel_rfl) | (with_reducible apply lenIs_mk; first | rfl | (simp only [go_sem])) | omega) [go_sem, -getElem?_pos, -List.length_flatMap, hx1, hx2, List.all_cons, Stmt.same_eq, h1, sameRef_spec, h3, h2, h4, h6, hE, h7, h8]
      rcases h9 : q1.c.same p q2.c with _ | _
      · cases p
        · simp -dsimp -implicitDefEqProofs +decide (maxSteps := 1000000) (disch := first | (with_reducible apply regOK_mk; kernel_rfl) | (with_reducible apply lenIs_mk; first | rfl | (simp only [go_sem])) | omega) [go_sem, -getElem?_pos, -List.length_flatMap, hx1, hx2, List.all_cons, Stmt.same_eq, h1, sameRef_spec, h3, h4, h6, hE, h7, h8, h9]
        · simp at h2
          simp -dsimp -implicitDefEqProofs +decide (maxSteps := 1000000) (disch := first | (with_reducible apply regOK_mk; kernel_rfl) | (with_reducible apply lenIs_mk; first | rfl | (simp only [go_sem])) | omega) [go_sem, -getElem?_pos, -List.length_flatMap, hx1, hx2, List.all_cons, Stmt.same_eq, h1, sameRef_spec, h3, h2, h4, h6, hE, h7, h8, h9]
      rcases h10 : Ref.sameL p q1.routes q2.routes with _ | _
      · cases p
        · simp -dsimp -implicitDefEqProofs +decide (maxSteps := 1000000) (disch := first | (with_reducible apply regOK_mk; kernel_rfl) | (with_reducible apply lenIs_mk; first | rfl | (simp only [go_sem])) | omega) [go_sem, -getElem?_pos, -List.length_flatMap, hx1, hx2, List.all_cons, Stmt.same_eq, h1, sameRef_spec, h3, h4, h6, hE, h7, h8, h9, sameRefs_spec, h10]
        · simp at h2
          simp -dsimp -implicitDefEqProofs +decide (maxSteps := 1000000) (disch := first | (with_reducible apply regOK_mk; kernel_rfl) | (with_reducible apply lenIs_mk; first | rfl | (simp only [go_sem])) | omega) [go_sem, -getElem?_pos, -List.length_flatMap, hx1, hx2, List.all_cons, Stmt.same_eq, h1, sameRef_spec, h3, h2, h4, h6, hE, h7, h8, h9, sameRefs_spec, h10]
      rcases h11 : Stmt.sameB p q1.body q2.body with _ | _
      · cases p
        · simp -dsimp -implicitDefEqProofs +decide (maxSteps := 1000000) (disch := first | (with_reducible apply regOK_mk; kernel_rfl) | (with_reducible apply lenIs_mk; first | rfl | (simp only [go_sem])) | omega) [go_sem, -getElem?_pos, -List.length_flatMap, hx1, hx2, List.all_cons, Stmt.same_eq, h1, sameRef_spec, h3, h4, h6, hE, h7, h8, h9, sameRefs_spec, h10, ih, h11]
        · simp at h2
          simp -dsimp -implicitDefEqProofs +decide (maxSteps := 1000000) (disch := first | (with_reducible apply regOK_mk; kernel_rfl) | (with_reducible apply lenIs_mk; first | rfl | (simp only [go_sem])) | omega) [go_sem, -getElem?_pos, -List.length_flatMap, hx1, hx2, List.all_cons, Stmt.same_eq, h1, sameRef_spec, h3, h2, h4, h6, hE, h7, h8, h9, sameRefs_spec, h10, ih, h11]
      rcases h12 : Stmt.sameB p q1.els q2.els with _ | _
      · cases p
        · simp -dsimp -implicitDefEqProofs +decide (maxSteps := 1000000) (disch := first | (with_reducible apply regOK_mk; kernel_rfl) | (with_reducible apply lenIs_mk; first | rfl | (simp only [go_sem])) | omega) [go_sem, -getElem?_pos, -List.length_flatMap, hx1, hx2, List.all_cons, Stmt.same_eq, h1, sameRef_spec, h3, h4, h6, hE, h7, h8, h9, sameRefs_spec, h10, ih, h11, h12, hnext]
        · simp at h2
          simp -dsimp -implicitDefEqProofs +decide (maxSteps := 1000000) (disch := first | (with_reducible apply regOK_mk; kernel_rfl) | (with_reducible apply lenIs_mk; first | rfl | (simp only [go_sem])) | omega) [go_sem, -getElem?_pos, -List.length_flatMap, hx1, hx2, List.all_cons, Stmt.same_eq, h1, sameRef_spec, h3, h2, h4, h6, hE, h7, h8, h9, sameRefs_spec, h10, ih, h11, h12, hnext]
      · cases p
        · simp -dsimp -implicitDefEqProofs +decide (maxSteps := 1000000) (disch := first | (with_reducible apply regOK_mk; kernel_rfl) | (with_reducible apply lenIs_mk; first | rfl | (simp only [go_sem])) | omega) [go_sem, -getElem?_pos, -List.length_flatMap, hx1, hx2, List.all_cons, Stmt.same_eq, h1, sameRef_spec, h3, h4, h6, hE, h7, h8, h9, sameRefs_spec, h10, ih, h11, h12, hnext]
        · simp at h2
          simp -dsimp -implicitDefEqProofs +decide (maxSteps := 1000000) (disch := first | (with_reducible apply regOK_mk; kernel_rfl) | (with_reducible apply lenIs_mk; first | rfl | (simp only [go_sem])) | omega) [go_sem, -getElem?_pos, -List.length_flatMap, hx1, hx2, List.all_cons, Stmt.same_eq, h1, sameRef_spec, h3, h2, h4, h6, hE, h7, h8, h9, sameRefs_spec, h10, ih, h11, h12, hnext]
end Sh
