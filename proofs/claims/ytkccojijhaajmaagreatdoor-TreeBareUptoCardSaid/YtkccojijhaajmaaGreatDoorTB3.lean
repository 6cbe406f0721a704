/-
Whole sources: placed, alike, bare.
-/
import Derived.Test.YtkccojijhaajmaaGreatDoorTB2
set_option linter.unusedSimpArgs false
set_option linter.unusedVariables false
set_option linter.unusedSectionVars false
set_option maxRecDepth 100000
set_option maxHeartbeats 4000000
set_option linter.unusedSimpArgs false
set_option linter.unusedVariables false
namespace Sh
open Go Go.Proofs

theorem Placed_spec (s : Source) (hn : s.bulk < 4294967296) : acall cx 10 [.agg s.cells] [] = some (.bool s.placed, []) := by
  unfold Source.bulk at hn
  have hl := Decl.len_bulkL s.decls
  have hP := placed_spec 4294967296
  have hS := placedStmts_spec 4294967296
  rw [acall_of rfl Tryz.func10 rfl, Source.placed]
  conv => lhs; simp -dsimp -implicitDefEqProofs +decide (maxSteps := 1000000) (disch := first | (with_reducible apply regOK_mk; kernel_rfl) | (with_reducible apply lenIs_mk; first | rfl | (simp only [go_sem])) | omega) [go_sem, -getElem?_pos, -List.length_flatMap]
  refine loop_list s.decls (fun i (_ : Unit) => ([(1, .ptr 0 0), (3, .int .i64 i)], [some ⟨s.cells, false, false, none⟩])) (fun _ _ => True) (fun post _ => some (.bool (Decl.placedL post || Stmt.placedL s.body), [])) ?_ ?_ () trivial
  · intro i _ hi _
    rw [lpc_eq]
    simp -dsimp -implicitDefEqProofs +decide (maxSteps := 1000000) (disch := first | (with_reducible apply regOK_mk; kernel_rfl) | (with_reducible apply lenIs_mk; first | rfl | (simp only [go_sem])) | omega) [go_sem, -getElem?_pos, -List.length_flatMap, hi, Decl.placedL, hS]
  · intro i x r _ hd hx hi hm _ hnext
    have hnext := hnext () trivial
    have hbm := Decl.bulk_mem hm
    have hlp := Place.len_bulkL x.places
    unfold Decl.bulk at hbm
    rw [lpc_eq]
    by_cases h1 : x.name.pos = 0
    case neg => simp -dsimp -implicitDefEqProofs +decide (maxSteps := 1000000) (disch := first | (with_reducible apply regOK_mk; kernel_rfl) | (with_reducible apply lenIs_mk; first | rfl | (simp only [go_sem])) | omega) [go_sem, -getElem?_pos, -List.length_flatMap, hx, Decl.placedL, h1]
    rcases h2 : x.value.placed with _ | _
    case true => simp -dsimp -implicitDefEqProofs +decide (maxSteps := 1000000) (disch := first | (with_reducible apply regOK_mk; kernel_rfl) | (with_reducible apply lenIs_mk; first | rfl | (simp only [go_sem])) | omega) [go_sem, -getElem?_pos, -List.length_flatMap, hx, Decl.placedL, h1, hP, h2]
    conv => lhs; simp -dsimp -implicitDefEqProofs +decide (maxSteps := 1000000) (disch := first | (with_reducible apply regOK_mk; kernel_rfl) | (with_reducible apply lenIs_mk; first | rfl | (simp only [go_sem])) | omega) [go_sem, -getElem?_pos, -List.length_flatMap, hx, h1, hP, h2]
    refine Eq.trans (loop_list x.places (fun j (_ : Unit) => ([(1, .ptr 0 0), (3, .int .i64 i), (4, .ptr 1 0), (5, .int .i64 j)], [some ⟨s.cells, false, false, none⟩, some ⟨x.cells, false, false, none⟩])) (fun _ _ => True) (fun post _ => some (.bool (Place.placedL post || (Decl.placedL r || Stmt.placedL s.body)), [])) ?_ ?_ () trivial) ?_
    · intro j _ hj _
      rw [lpc_eq]
      simp -dsimp -implicitDefEqProofs +decide (maxSteps := 1000000) (disch := first | (with_reducible apply regOK_mk; kernel_rfl) | (with_reducible apply lenIs_mk; first | rfl | (simp only [go_sem])) | omega) [go_sem, -getElem?_pos, -List.length_flatMap, hj, Place.placedL, hnext]
    · intro j y r2 _ hd2 hy hj hm2 _ hnext2
      have hnext2 := hnext2 () trivial
      have hbm2 := Place.bulk_mem hm2
      unfold Place.bulk at hbm2
      rw [lpc_eq]
      by_cases h3 : y.node.pos = 0
      case neg => simp -dsimp -implicitDefEqProofs +decide (maxSteps := 1000000) (disch := first | (with_reducible apply regOK_mk; kernel_rfl) | (with_reducible apply lenIs_mk; first | rfl | (simp only [go_sem])) | omega) [go_sem, -getElem?_pos, -List.length_flatMap, hy, Place.placedL, h3]
      rcases h4 : y.delay.placed with _ | _
      case true => simp -dsimp -implicitDefEqProofs +decide (maxSteps := 1000000) (disch := first | (with_reducible apply regOK_mk; kernel_rfl) | (with_reducible apply lenIs_mk; first | rfl | (simp only [go_sem])) | omega) [go_sem, -getElem?_pos, -List.length_flatMap, hy, Place.placedL, h3, hP, h4]
      rcases h5 : y.flags.placed with _ | _ <;>
      simp -dsimp -implicitDefEqProofs +decide (maxSteps := 1000000) (disch := first | (with_reducible apply regOK_mk; kernel_rfl) | (with_reducible apply lenIs_mk; first | rfl | (simp only [go_sem])) | omega) [go_sem, -getElem?_pos, -List.length_flatMap, hy, Place.placedL, h3, hP, h4, h5, hnext2]
    · simp [Decl.placedL, h1, h2, Bool.or_assoc]

theorem Same_spec (a b : Source) (p : Bool) (hn : a.bulk < 4294967296) : acall cx 8 [.agg a.cells, .agg b.cells, .bool p] [] = some (.bool (a.same p b), []) := by
  unfold Source.bulk at hn
  have hl := Decl.len_bulkL a.decls
  have hE := sameExpr_spec 4294967296
  have hS := sameStmts_spec 4294967296
  rw [acall_of rfl Tryz.func8 rfl, Source.same]
  by_cases h5 : a.decls.length = b.decls.length
  case neg => simp -dsimp -implicitDefEqProofs +decide (maxSteps := 1000000) (disch := first | (with_reducible apply regOK_mk; kernel_rfl) | (with_reducible apply lenIs_mk; first | rfl | (simp only [go_sem])) | omega) [go_sem, -getElem?_pos, -List.length_flatMap, h5]
  have hzl : (a.decls.zip b.decls).length = a.decls.length := by simp [List.length_zip, h5]
  conv => lhs; simp -dsimp -implicitDefEqProofs +decide (maxSteps := 1000000) (disch := first | (with_reducible apply regOK_mk; kernel_rfl) | (with_reducible apply lenIs_mk; first | rfl | (simp only [go_sem])) | omega) [go_sem, -getElem?_pos, -List.length_flatMap, h5]
  refine Eq.trans (loop_list (a.decls.zip b.decls) (fun i (_ : Unit) => ([(2, .bool p), (3, .ptr 0 0), (4, .ptr 1 0), (7, .int .i64 i)], [some ⟨a.cells, false, false, none⟩, some ⟨b.cells, false, false, none⟩])) (fun _ _ => True) (fun post _ => some (.bool ((post.all fun q => q.1.same p q.2) && Stmt.sameB p a.body b.body), [])) ?_ ?_ () trivial) (by simp [h5, Stmt.sameB])
  · intro i s hi _
    rw [lpc_eq]
    simp -dsimp -implicitDefEqProofs +decide (maxSteps := 1000000) (disch := first | (with_reducible apply regOK_mk; kernel_rfl) | (with_reducible apply lenIs_mk; first | rfl | (simp only [go_sem])) | omega) [go_sem, -getElem?_pos, -List.length_flatMap, hi, hzl, List.all_nil, hS]
  · intro i q r s hd hx hi hm _ hnext
    have hnext := hnext () trivial
    obtain ⟨q1, q2⟩ := q
    rw [List.getElem?_zip_eq_some] at hx
    obtain ⟨hx1, hx2⟩ := hx
    dsimp only at hx1 hx2
    have hbm := Decl.bulk_mem (List.mem_of_getElem? hx1)
    have hlp := Place.len_bulkL q1.places
    unfold Decl.bulk at hbm
    rw [lpc_eq]
    by_cases h1 : q1.kind = q2.kind
    case neg => simp -dsimp -implicitDefEqProofs +decide (maxSteps := 1000000) (disch := first | (with_reducible apply regOK_mk; kernel_rfl) | (with_reducible apply lenIs_mk; first | rfl | (simp only [go_sem])) | omega) [go_sem, -getElem?_pos, -List.length_flatMap, hx1, hx2, List.all_cons, Decl.same, h1]
    rcases h2 : q1.name.same p q2.name with _ | _
    · simp -dsimp -implicitDefEqProofs +decide (maxSteps := 1000000) (disch := first | (with_reducible apply regOK_mk; kernel_rfl) | (with_reducible apply lenIs_mk; first | rfl | (simp only [go_sem])) | omega) [go_sem, -getElem?_pos, -List.length_flatMap, hx1, hx2, List.all_cons, Decl.same, h1, sameRef_spec, h2]
    rcases h3 : q1.value.same p q2.value with _ | _
    · simp -dsimp -implicitDefEqProofs +decide (maxSteps := 1000000) (disch := first | (with_reducible apply regOK_mk; kernel_rfl) | (with_reducible apply lenIs_mk; first | rfl | (simp only [go_sem])) | omega) [go_sem, -getElem?_pos, -List.length_flatMap, hx1, hx2, List.all_cons, Decl.same, h1, sameRef_spec, h2, hE, h3]
    by_cases h4 : q1.places.length = q2.places.length
    case neg => simp -dsimp -implicitDefEqProofs +decide (maxSteps := 1000000) (disch := first | (with_reducible apply regOK_mk; kernel_rfl) | (with_reducible apply lenIs_mk; first | rfl | (simp only [go_sem])) | omega) [go_sem, -getElem?_pos, -List.length_flatMap, hx1, hx2, List.all_cons, Decl.same, h1, sameRef_spec, h2, hE, h3, h4]
    have hzp : (q1.places.zip q2.places).length = q1.places.length := by simp [List.length_zip, h4]
    conv => lhs; simp -dsimp -implicitDefEqProofs +decide (maxSteps := 1000000) (disch := first | (with_reducible apply regOK_mk; kernel_rfl) | (with_reducible apply lenIs_mk; first | rfl | (simp only [go_sem])) | omega) [go_sem, -getElem?_pos, -List.length_flatMap, hx1, hx2, h1, sameRef_spec, h2, hE, h3, h4]
    refine Eq.trans (loop_list (q1.places.zip q2.places) (fun j (_ : Unit) => ([(2, .bool p), (3, .ptr 0 0), (4, .ptr 1 0), (7, .int .i64 i), (8, .ptr 2 0), (9, .ptr 3 0), (10, .int .i64 j)], [some ⟨a.cells, false, false, none⟩, some ⟨b.cells, false, false, none⟩, some ⟨q1.cells, false, false, none⟩, some ⟨q2.cells, false, false, none⟩])) (fun _ _ => True) (fun post _ => some (.bool ((post.all fun q => q.1.same p q.2) && ((r.all fun q => q.1.same p q.2) && Stmt.sameB p a.body b.body)), [])) ?_ ?_ () trivial) (by simp [Decl.same, h1, h2, h3, h4, Bool.and_assoc])
    · intro j _ hj _
      rw [lpc_eq]
      simp -dsimp -implicitDefEqProofs +decide (maxSteps := 1000000) (disch := first | (with_reducible apply regOK_mk; kernel_rfl) | (with_reducible apply lenIs_mk; first | rfl | (simp only [go_sem])) | omega) [go_sem, -getElem?_pos, -List.length_flatMap, hj, hzp, h4, List.all_nil, hnext]
    · intro j u r2 _ hd2 hy hj hm2 _ hnext2
      have hnext2 := hnext2 () trivial
      obtain ⟨u1, u2⟩ := u
      rw [List.getElem?_zip_eq_some] at hy
      obtain ⟨hy1, hy2⟩ := hy
      dsimp only at hy1 hy2
      have hbm2 := Place.bulk_mem (List.mem_of_getElem? hy1)
      unfold Place.bulk at hbm2
      rw [lpc_eq]
      rcases k1 : u1.node.same p u2.node with _ | _
      · simp -dsimp -implicitDefEqProofs +decide (maxSteps := 1000000) (disch := first | (with_reducible apply regOK_mk; kernel_rfl) | (with_reducible apply lenIs_mk; first | rfl | (simp only [go_sem])) | omega) [go_sem, -getElem?_pos, -List.length_flatMap, hy1, hy2, List.all_cons, Place.same, sameRef_spec, k1]
      rcases k2 : u1.delay.same p u2.delay with _ | _
      · simp -dsimp -implicitDefEqProofs +decide (maxSteps := 1000000) (disch := first | (with_reducible apply regOK_mk; kernel_rfl) | (with_reducible apply lenIs_mk; first | rfl | (simp only [go_sem])) | omega) [go_sem, -getElem?_pos, -List.length_flatMap, hy1, hy2, List.all_cons, Place.same, sameRef_spec, k1, hE, k2]
      rcases k3 : u1.flags.same p u2.flags with _ | _ <;>
      simp -dsimp -implicitDefEqProofs +decide (maxSteps := 1000000) (disch := first | (with_reducible apply regOK_mk; kernel_rfl) | (with_reducible apply lenIs_mk; first | rfl | (simp only [go_sem])) | omega) [go_sem, -getElem?_pos, -List.length_flatMap, hy1, hy2, List.all_cons, Place.same, sameRef_spec, k1, hE, k2, k3, hnext2]

theorem Bare_spec (s : Source) (hn : s.bulk < 4294967296) : acall cx 11 [.agg s.cells] [] = some (.agg s.bare.cells, []) := by
  unfold Source.bulk at hn
  have hl := Decl.len_bulkL s.decls
  have hE := bareExpr_spec 4294967296
  have hS := bareStmts_spec 4294967296
  rw [acall_of rfl Tryz.func11 rfl, Source.bare]
  conv => lhs; simp -dsimp -implicitDefEqProofs +decide (maxSteps := 1000000) (disch := first | (with_reducible apply regOK_mk; kernel_rfl) | (with_reducible apply lenIs_mk; first | rfl | (simp only [go_sem])) | omega) [go_sem, -getElem?_pos, -List.length_flatMap]
  refine loop_list s.decls (fun i (acc : List Decl) => ([(1, .ptr 0 0), (2, .ptr 1 0), (3, .ptr 2 0), (10, .dsl (s.decls.map Decl.av)), (11, .int .i64 s.decls.length), (12, .int .i64 i)], [some ⟨s.cells, false, false, none⟩, some ⟨[.nils, .nils], false, false, none⟩, some ⟨[accV 3 9 acc.length, .nils], false, false, none⟩] ++ accB acc.length (acc.flatMap Decl.cells)))
       (fun i acc => acc.length = i) (fun post acc => some (.agg (Source.mk (acc ++ post.map Decl.bare) (Stmt.bareL s.body)).cells, [])) ?_ ?_ [] rfl
  · intro i acc hi hI
    rw [lpc_eq]
    rcases hc : acc.length with _ | m
    · obtain rfl := List.length_eq_zero_iff.1 hc
      simp -dsimp -implicitDefEqProofs +decide (maxSteps := 1000000) (disch := first | (with_reducible apply regOK_mk; kernel_rfl) | (with_reducible apply lenIs_mk; first | rfl | (simp only [go_sem])) | omega) [go_sem, -getElem?_pos, -List.length_flatMap, hi, accV, accB, hS]
    · simp -dsimp -implicitDefEqProofs +decide (maxSteps := 1000000) (disch := first | (with_reducible apply regOK_mk; kernel_rfl) | (with_reducible apply lenIs_mk; first | rfl | (simp only [go_sem])) | omega) [go_sem, -getElem?_pos, -List.length_flatMap, hi, accV, accB, hc, hS]
  · intro i x r acc hd hx hi hm hI hnext
    have hnext := hnext (acc ++ [x.bare]) (by simp [hI])
    have hbm := Decl.bulk_mem hm
    have hlp := Place.len_bulkL x.places
    unfold Decl.bulk at hbm
    rw [lpc_eq]
    rcases hc : acc.length with _ | m
    · obtain rfl := List.length_eq_zero_iff.1 hc
      conv => lhs; simp -dsimp -implicitDefEqProofs +decide (maxSteps := 1000000) (disch := first | (with_reducible apply regOK_mk; kernel_rfl) | (with_reducible apply lenIs_mk; first | rfl | (simp only [go_sem])) | omega) [go_sem, -getElem?_pos, -List.length_flatMap, hx, accV, accB, hE, bareRef_spec]
      refine Eq.trans (loop_list x.places (fun j (rs : List Place) => ([(1, .ptr 0 0), (2, .ptr 1 0), (3, .ptr 2 0), (6, .ptr 3 0), (10, .dsl (s.decls.map Decl.av)), (11, .int .i64 s.decls.length), (12, .int .i64 i), (26, .dsl (x.places.map Place.av)), (27, .int .i64 x.places.length), (28, .int .i64 j)],
          [some ⟨s.cells, false, false, none⟩, some ⟨[.nils, .nils], false, false, none⟩, some ⟨[.nils, .nils], false, false, none⟩, some ⟨[.str x.kind, .str x.name.bare.name, .int .i64 x.name.bare.pos, .str x.value.bare.op, .int .i64 x.value.bare.num, .str x.value.bare.text, .int .i64 x.value.bare.pos, .dsl (x.value.bare.args.map Ex.av), accV 4 12 rs.length], false, false, none⟩] ++ accB rs.length (rs.flatMap Place.cells)))
        (fun j rs => rs.length = j ∧ rs = (x.places.take j).map Place.bare) (fun _ _ => some (.agg (Source.mk (x.bare :: r.map Decl.bare) (Stmt.bareL s.body)).cells, [])) ?_ ?_ [] ⟨rfl, by simp⟩) ?_
      · intro j rs hj hrs
        obtain ⟨hrl, hrs⟩ := hrs
        have hrs' : rs = x.places.map Place.bare := by rw [hrs, ← hj, List.take_length]
        have hnext := hnext
        rw [Decl.bare, ← hrs'] at hnext
        rw [Decl.bare, ← hrs', lpc_eq]
        rcases hrc : rs.length with _ | k
        · obtain rfl := List.length_eq_zero_iff.1 hrc
          simp -dsimp -implicitDefEqProofs +decide (maxSteps := 1000000) (disch := first | (with_reducible apply regOK_mk; kernel_rfl) | (with_reducible apply lenIs_mk; first | rfl | (simp only [go_sem])) | omega) [go_sem, -getElem?_pos, -List.length_flatMap, accV, accB] at hnext
          simp -dsimp -implicitDefEqProofs +decide (maxSteps := 1000000) (disch := first | (with_reducible apply regOK_mk; kernel_rfl) | (with_reducible apply lenIs_mk; first | rfl | (simp only [go_sem])) | omega) [go_sem, -getElem?_pos, -List.length_flatMap, hj, accV, accB, hnext]
        · simp -dsimp -implicitDefEqProofs +decide (maxSteps := 1000000) (disch := first | (with_reducible apply regOK_mk; kernel_rfl) | (with_reducible apply lenIs_mk; first | rfl | (simp only [go_sem])) | omega) [go_sem, -getElem?_pos, -List.length_flatMap, accV, accB, hrc] at hnext
          simp -dsimp -implicitDefEqProofs +decide (maxSteps := 1000000) (disch := first | (with_reducible apply regOK_mk; kernel_rfl) | (with_reducible apply lenIs_mk; first | rfl | (simp only [go_sem])) | omega) [go_sem, -getElem?_pos, -List.length_flatMap, hj, accV, accB, hrc, hnext]
      · intro j y r2 rs hd2 hy hj hm2 hrs hnext2
        obtain ⟨hrl, hrs⟩ := hrs
        have hnext2 := hnext2 (rs ++ [y.bare]) ⟨by simp [hrl], by rw [hrs, List.take_add_one, hy]; simp⟩
        have hbm2 := Place.bulk_mem hm2
        unfold Place.bulk at hbm2
        rw [Place.bare] at hnext2
        rw [lpc_eq]
        rcases hrc : rs.length with _ | k
        · obtain rfl := List.length_eq_zero_iff.1 hrc
          simp -dsimp -implicitDefEqProofs +decide (maxSteps := 1000000) (disch := first | (with_reducible apply regOK_mk; kernel_rfl) | (with_reducible apply lenIs_mk; first | rfl | (simp only [go_sem])) | omega) [go_sem, -getElem?_pos, -List.length_flatMap, accV, accB] at hnext2
          simp -dsimp -implicitDefEqProofs +decide (maxSteps := 1000000) (disch := first | (with_reducible apply regOK_mk; kernel_rfl) | (with_reducible apply lenIs_mk; first | rfl | (simp only [go_sem])) | omega) [go_sem, -getElem?_pos, -List.length_flatMap, hy, accV, accB, bareRef_spec, hE, hnext2]
        · simp -dsimp -implicitDefEqProofs +decide (maxSteps := 1000000) (disch := first | (with_reducible apply regOK_mk; kernel_rfl) | (with_reducible apply lenIs_mk; first | rfl | (simp only [go_sem])) | omega) [go_sem, -getElem?_pos, -List.length_flatMap, accV, accB, hrc] at hnext2
          simp -dsimp -implicitDefEqProofs +decide (maxSteps := 1000000) (disch := first | (with_reducible apply regOK_mk; kernel_rfl) | (with_reducible apply lenIs_mk; first | rfl | (simp only [go_sem])) | omega) [go_sem, -getElem?_pos, -List.length_flatMap, hy, accV, accB, bareRef_spec, hE, hnext2, hrc]
      · simp
    · conv => lhs; simp -dsimp -implicitDefEqProofs +decide (maxSteps := 1000000) (disch := first | (with_reducible apply regOK_mk; kernel_rfl) | (with_reducible apply lenIs_mk; first | rfl | (simp only [go_sem])) | omega) [go_sem, -getElem?_pos, -List.length_flatMap, hx, accV, accB, hc, hE, bareRef_spec]
      refine Eq.trans (loop_list x.places (fun j (rs : List Place) => ([(1, .ptr 0 0), (2, .ptr 1 0), (3, .ptr 2 0), (6, .ptr 3 0), (10, .dsl (s.decls.map Decl.av)), (11, .int .i64 s.decls.length), (12, .int .i64 i), (26, .dsl (x.places.map Place.av)), (27, .int .i64 x.places.length), (28, .int .i64 j)],
          [some ⟨s.cells, false, false, none⟩, some ⟨[.nils, .nils], false, false, none⟩, some ⟨[.lsl 4 0 (m + 1) none 9, .nils], false, false, none⟩, some ⟨[.str x.kind, .str x.name.bare.name, .int .i64 x.name.bare.pos, .str x.value.bare.op, .int .i64 x.value.bare.num, .str x.value.bare.text, .int .i64 x.value.bare.pos, .dsl (x.value.bare.args.map Ex.av), accV 5 12 rs.length], false, false, none⟩, some ⟨acc.flatMap Decl.cells, true, true, none⟩] ++ accB rs.length (rs.flatMap Place.cells)))
        (fun j rs => rs.length = j ∧ rs = (x.places.take j).map Place.bare) (fun _ _ => some (.agg (Source.mk (acc ++ x.bare :: r.map Decl.bare) (Stmt.bareL s.body)).cells, [])) ?_ ?_ [] ⟨rfl, by simp⟩) ?_
      · intro j rs hj hrs
        obtain ⟨hrl, hrs⟩ := hrs
        have hrs' : rs = x.places.map Place.bare := by rw [hrs, ← hj, List.take_length]
        have hnext := hnext
        rw [Decl.bare, ← hrs'] at hnext
        rw [Decl.bare, ← hrs', lpc_eq]
        rcases hrc : rs.length with _ | k
        · obtain rfl := List.length_eq_zero_iff.1 hrc
          simp -dsimp -implicitDefEqProofs +decide (maxSteps := 1000000) (disch := first | (with_reducible apply regOK_mk; kernel_rfl) | (with_reducible apply lenIs_mk; first | rfl | (simp only [go_sem])) | omega) [go_sem, -getElem?_pos, -List.length_flatMap, accV, accB, hc] at hnext
          simp -dsimp -implicitDefEqProofs +decide (maxSteps := 1000000) (disch := first | (with_reducible apply regOK_mk; kernel_rfl) | (with_reducible apply lenIs_mk; first | rfl | (simp only [go_sem])) | omega) [go_sem, -getElem?_pos, -List.length_flatMap, hj, accV, accB, hc, hnext]
        · simp -dsimp -implicitDefEqProofs +decide (maxSteps := 1000000) (disch := first | (with_reducible apply regOK_mk; kernel_rfl) | (with_reducible apply lenIs_mk; first | rfl | (simp only [go_sem])) | omega) [go_sem, -getElem?_pos, -List.length_flatMap, accV, accB, hc, hrc] at hnext
          simp -dsimp -implicitDefEqProofs +decide (maxSteps := 1000000) (disch := first | (with_reducible apply regOK_mk; kernel_rfl) | (with_reducible apply lenIs_mk; first | rfl | (simp only [go_sem])) | omega) [go_sem, -getElem?_pos, -List.length_flatMap, hj, accV, accB, hc, hrc, hnext]
      · intro j y r2 rs hd2 hy hj hm2 hrs hnext2
        obtain ⟨hrl, hrs⟩ := hrs
        have hnext2 := hnext2 (rs ++ [y.bare]) ⟨by simp [hrl], by rw [hrs, List.take_add_one, hy]; simp⟩
        have hbm2 := Place.bulk_mem hm2
        unfold Place.bulk at hbm2
        rw [Place.bare] at hnext2
        rw [lpc_eq]
        rcases hrc : rs.length with _ | k
        · obtain rfl := List.length_eq_zero_iff.1 hrc
          simp -dsimp -implicitDefEqProofs +decide (maxSteps := 1000000) (disch := first | (with_reducible apply regOK_mk; kernel_rfl) | (with_reducible apply lenIs_mk; first | rfl | (simp only [go_sem])) | omega) [go_sem, -getElem?_pos, -List.length_flatMap, accV, accB, hc] at hnext2
          simp -dsimp -implicitDefEqProofs +decide (maxSteps := 1000000) (disch := first | (with_reducible apply regOK_mk; kernel_rfl) | (with_reducible apply lenIs_mk; first | rfl | (simp only [go_sem])) | omega) [go_sem, -getElem?_pos, -List.length_flatMap, hy, accV, accB, hc, bareRef_spec, hE, hnext2]
        · simp -dsimp -implicitDefEqProofs +decide (maxSteps := 1000000) (disch := first | (with_reducible apply regOK_mk; kernel_rfl) | (with_reducible apply lenIs_mk; first | rfl | (simp only [go_sem])) | omega) [go_sem, -getElem?_pos, -List.length_flatMap, accV, accB, hc, hrc] at hnext2
          simp -dsimp -implicitDefEqProofs +decide (maxSteps := 1000000) (disch := first | (with_reducible apply regOK_mk; kernel_rfl) | (with_reducible apply lenIs_mk; first | rfl | (simp only [go_sem])) | omega) [go_sem, -getElem?_pos, -List.length_flatMap, hy, accV, accB, hc, bareRef_spec, hE, hnext2, hrc]
      · simp
end Sh
