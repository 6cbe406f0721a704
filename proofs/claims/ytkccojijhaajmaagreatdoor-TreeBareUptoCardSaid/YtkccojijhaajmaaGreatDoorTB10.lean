/-
Sources printed.
-/
import Derived.Test.YtkccojijhaajmaaGreatDoorTB9
set_option linter.unusedSimpArgs false
set_option linter.unusedVariables false
set_option linter.unusedSectionVars false
set_option maxRecDepth 100000
set_option maxHeartbeats 4000000
set_option linter.unusedSimpArgs false
set_option linter.unusedVariables false
namespace Sh
open Go Go.Proofs
def Ex.markT (m : UInt8) (e : Ex) : List UInt8 := if e.op = [] then [] else m :: e.atomT
def Place.prt (p : Place) : List UInt8 := p.node.name ++ (p.delay.markT 64 ++ p.flags.markT 33)
def Place.prtsT : List Place → List UInt8
  | [] => []
  | p :: l => [32, 62, 32] ++ (p.prt ++ Place.prtsT l)
def Place.prts : List Place → List UInt8
  | [] => []
  | p :: l => p.prt ++ Place.prtsT l
theorem Place.prts_cons (p : Place) (l : List Place) : Place.prts (p :: l) = p.prt ++ Place.prtsT l := rfl
def Decl.prt (d : Decl) : List UInt8 :=
  if d.kind = [108, 101, 116] then [108, 101, 116, 32] ++ (d.name.name ++ ([32, 61, 32] ++ (d.value.pr 0 ++ [59, 10])))
  else if d.kind = [114, 111, 117, 116, 101] then [114, 111, 117, 116, 101, 32] ++ (d.name.name ++ ([32, 61, 32] ++ (Place.prts d.places ++ [59, 10])))
  else [63, 59, 10]
def Decl.prts : List Decl → List UInt8
  | [] => []
  | d :: l => d.prt ++ Decl.prts l
def Source.prt (s : Source) : List UInt8 := Decl.prts s.decls ++ Stmt.prts s.body []
def Place.fits (p : Place) : Prop := p.delay.fits ∧ p.flags.fits
def Decl.fits (d : Decl) : Prop := d.value.fits ∧ ∀ p ∈ d.places, p.fits
def Source.fits (s : Source) : Prop := (∀ d ∈ s.decls, d.fits) ∧ Stmt.fitsL s.body

theorem Print_spec (s : Source) (h : s.bulk < 4294967296) (hf : s.fits) (hlen : s.prt.length ≤ 4611686018427387904) : acall cx 9 [.agg s.cells] [] = some (.str s.prt, []) := by
  unfold Source.bulk at h
  unfold Source.prt at hlen
  simp only [List.length_append] at hlen
  have hl := Decl.len_bulkL s.decls
  have hS := stmts_spec 4294967296 s.body [] (by omega) (by omega) hf.2 (by omega)
  rw [acall_of rfl Tryz.func9 rfl, Source.prt]
  conv => lhs; simp -dsimp -implicitDefEqProofs +decide (maxSteps := 1000000) (disch := first | (with_reducible apply regOK_mk; kernel_rfl) | (with_reducible apply lenIs_mk; first | rfl | (simp only [go_sem])) | omega) [go_sem, -getElem?_pos, -List.length_flatMap]
  refine Eq.trans (loop_list s.decls (fun i (acc : List UInt8) => ([(1, .ptr 0 0), (3, .str acc), (4, .int .i64 i)], [some ⟨s.cells, false, false, none⟩])) (fun i acc => acc.length + (Decl.prts (s.decls.drop i)).length + (Stmt.prts s.body []).length ≤ 4611686018427387904) (fun post acc => some (.str (acc ++ (Decl.prts post ++ Stmt.prts s.body [])), [])) ?_ ?_ [] (by simpa using hlen)) rfl
  · intro i acc hi hI
    have q1 : acc.length + (Stmt.prts s.body []).length ≤ 9223372036854775807 := by omega
    rw [lpc_eq]
    simp -dsimp -implicitDefEqProofs +decide (maxSteps := 1000000) (disch := first | (with_reducible apply regOK_mk; kernel_rfl) | (with_reducible apply lenIs_mk; first | rfl | (simp only [go_sem])) | omega) [go_sem, -getElem?_pos, -List.length_flatMap, hi, Decl.prts, hS, q1]
  · intro i x r acc hd hx hi hm hI hnext
    rw [hd] at hI
    simp only [Decl.prts, List.length_append] at hI
    have hnext := hnext (acc ++ x.prt) (by rw [(drop_cons hd).2.2]; simp only [List.length_append]; omega)
    have hbm := Decl.bulk_mem hm
    unfold Decl.bulk Ref.bulk at hbm
    have hxf := hf.1 x hm
    have hlp := Place.len_bulkL x.places
    rw [Decl.prts]
    rw [lpc_eq]
    by_cases h1 : x.kind = [108, 101, 116]
    · have hE := expr_spec 4294967296 x.value 0 (by omega) (by omega) hxf.1
      have hEl := Ex.pr_len _ x.value 0 (Nat.lt_succ_self _) hxf.1
      have ex : x.prt = [108, 101, 116, 32] ++ (x.name.name ++ ([32, 61, 32] ++ (x.value.pr 0 ++ [59, 10]))) := by simp [Decl.prt, h1]
      rw [ex] at hnext hI ⊢
      simp only [List.length_append, List.length_cons, List.length_nil] at hI
      have q1 : acc.length + 4 + x.name.name.length ≤ 9223372036854775807 := by omega
      simp -dsimp -implicitDefEqProofs +decide (maxSteps := 1000000) (disch := first | (with_reducible apply regOK_mk; kernel_rfl) | (with_reducible apply lenIs_mk; first | rfl | (simp only [go_sem])) | omega) [go_sem, -getElem?_pos, -List.length_flatMap] at hnext
      simp -dsimp -implicitDefEqProofs +decide (maxSteps := 1000000) (disch := first | (with_reducible apply regOK_mk; kernel_rfl) | (with_reducible apply lenIs_mk; first | rfl | (simp only [go_sem])) | omega) [go_sem, -getElem?_pos, -List.length_flatMap, hx, h1, hE, q1, hnext]
    by_cases h2 : x.kind = [114, 111, 117, 116, 101]
    · have ex : x.prt = [114, 111, 117, 116, 101, 32] ++ (x.name.name ++ ([32, 61, 32] ++ (Place.prts x.places ++ [59, 10]))) := by simp [Decl.prt, h2]
      rw [ex] at hnext hI ⊢
      simp only [List.length_append, List.length_cons, List.length_nil] at hI
      have q1 : acc.length + 6 + x.name.name.length ≤ 9223372036854775807 := by omega
      conv => lhs; simp -dsimp -implicitDefEqProofs +decide (maxSteps := 1000000) (disch := first | (with_reducible apply regOK_mk; kernel_rfl) | (with_reducible apply lenIs_mk; first | rfl | (simp only [go_sem])) | omega) [go_sem, -getElem?_pos, -List.length_flatMap, hx, h2, q1]
      have e0 : ∀ A : List UInt8, acc ++ [114, 111, 117, 116, 101, 32] ++ (x.name.name ++ ([32, 61, 32] ++ A)) = acc ++ ([114, 111, 117, 116, 101, 32] ++ (x.name.name ++ ([32, 61, 32] ++ A))) := fun A => by simp
      refine Eq.trans (loop_list x.places (fun j (t : List UInt8 × Bool) => ([(1, .ptr 0 0), (3, .str t.1), (4, .int .i64 i), (5, .ptr 1 0), (6, .int .i64 j)], [some ⟨s.cells, false, false, none⟩, some ⟨x.cells, false, false, none⟩]))
        (fun j t => t.2 = decide (j = 0) ∧ t.1 ++ (if t.2 then Place.prts (x.places.drop j) else Place.prtsT (x.places.drop j)) = acc ++ ([114, 111, 117, 116, 101, 32] ++ (x.name.name ++ ([32, 61, 32] ++ Place.prts x.places))))
        (fun _ _ => some (.str (acc ++ ([114, 111, 117, 116, 101, 32] ++ (x.name.name ++ ([32, 61, 32] ++ (Place.prts x.places ++ [59, 10]))) ++ Decl.prts r ++ Stmt.prts s.body [])), [])) ?_ ?_ (acc ++ ([114, 111, 117, 116, 101, 32] ++ (x.name.name ++ [32, 61, 32])), true) ⟨rfl, by simp⟩) (by simp)
      · rintro j ⟨out, fl⟩ hj ⟨hI2, hJ⟩
        dsimp only at hI2 hJ ⊢
        have hout : out = acc ++ ([114, 111, 117, 116, 101, 32] ++ (x.name.name ++ ([32, 61, 32] ++ Place.prts x.places))) := by
          rw [← hJ, ← hj, List.drop_length]
          cases fl <;> simp [Place.prts, Place.prtsT]
        have hol : out.length = acc.length + (6 + (x.name.name.length + (3 + (Place.prts x.places).length))) := by rw [hout]; simp only [List.length_append, List.length_cons, List.length_nil]
        have q2 : out.length + 2 ≤ 9223372036854775807 := by omega
        have hnext' : acc ++ ([114, 111, 117, 116, 101, 32] ++ (x.name.name ++ ([32, 61, 32] ++ (Place.prts x.places ++ [59, 10])))) = out ++ [59, 10] := by rw [hout]; simp
        rw [hnext'] at hnext
        have hrhs : acc ++ ([114, 111, 117, 116, 101, 32] ++ (x.name.name ++ ([32, 61, 32] ++ (Place.prts x.places ++ [59, 10]))) ++ Decl.prts r ++ Stmt.prts s.body []) = out ++ ([59, 10] ++ (Decl.prts r ++ Stmt.prts s.body [])) := by rw [hout]; simp
        rw [hrhs, lpc_eq]
        simp -dsimp -implicitDefEqProofs +decide (maxSteps := 1000000) (disch := first | (with_reducible apply regOK_mk; kernel_rfl) | (with_reducible apply lenIs_mk; first | rfl | (simp only [go_sem])) | omega) [go_sem, -getElem?_pos, -List.length_flatMap] at hnext
        simp -dsimp -implicitDefEqProofs +decide (maxSteps := 1000000) (disch := first | (with_reducible apply regOK_mk; kernel_rfl) | (with_reducible apply lenIs_mk; first | rfl | (simp only [go_sem])) | omega) [go_sem, -getElem?_pos, -List.length_flatMap, hj, q2, hnext]
      · rintro j y r2 ⟨out, fl⟩ hd2 hy hj hm2 ⟨hI2, hJ⟩ hnext2
        dsimp only at hI2 hJ ⊢
        rw [hd2] at hJ
        have hJl := congrArg List.length hJ
        simp only [List.length_append, List.length_cons, List.length_nil] at hJl
        have hbm2 := Place.bulk_mem hm2
        unfold Place.bulk at hbm2
        have hyf := hxf.2 y hm2
        have hA := atomText_spec y.delay (by omega) hyf.1
        have hF := atomText_spec y.flags (by omega) hyf.2
        have hsp : y.prt = y.node.name ++ (y.delay.markT 64 ++ y.flags.markT 33) := rfl
        rw [lpc_eq]
        cases fl
        · have h0 : 0 < j := by
            have := of_decide_eq_false hI2.symm; omega
          clear hI2
          simp only [Bool.false_eq_true, if_false, Place.prtsT, List.length_append, List.length_cons, List.length_nil, hsp] at hJ hJl
          have hnext2 := hnext2 (out ++ ([32, 62, 32] ++ y.prt), false) ⟨by simp, by rw [(drop_cons hd2).2.2, hsp]; simp only [Bool.false_eq_true, if_false]; rw [← hJ]; simp⟩
          rw [hsp] at hnext2
          by_cases k1 : y.delay.op = []
          · by_cases k2 : y.flags.op = []
            · simp only [Ex.markT, k1, k2, if_true, List.length_nil] at hJl
              have q1 : out.length + 3 + y.node.name.length ≤ 9223372036854775807 := by omega
              simp -dsimp -implicitDefEqProofs +decide (maxSteps := 1000000) (disch := first | (with_reducible apply regOK_mk; kernel_rfl) | (with_reducible apply lenIs_mk; first | rfl | (simp only [go_sem])) | omega) [go_sem, -getElem?_pos, -List.length_flatMap, Ex.markT, k1, k2] at hnext2
              simp -dsimp -implicitDefEqProofs +decide (maxSteps := 1000000) (disch := first | (with_reducible apply regOK_mk; kernel_rfl) | (with_reducible apply lenIs_mk; first | rfl | (simp only [go_sem])) | omega) [go_sem, -getElem?_pos, -List.length_flatMap, hy, h0, q1, k1, k2, hnext2]
            · simp only [Ex.markT, k1, k2, if_true, if_false, List.length_nil, List.length_cons] at hJl
              have q1 : out.length + 3 + y.node.name.length ≤ 9223372036854775807 := by omega
              have k2' : y.flags.op.isEmpty = false := by simpa using k2
              simp -dsimp -implicitDefEqProofs +decide (maxSteps := 1000000) (disch := first | (with_reducible apply regOK_mk; kernel_rfl) | (with_reducible apply lenIs_mk; first | rfl | (simp only [go_sem])) | omega) [go_sem, -getElem?_pos, -List.length_flatMap, Ex.markT, k1, k2] at hnext2
              simp -dsimp -implicitDefEqProofs +decide (maxSteps := 1000000) (disch := first | (with_reducible apply regOK_mk; kernel_rfl) | (with_reducible apply lenIs_mk; first | rfl | (simp only [go_sem])) | omega) [go_sem, -getElem?_pos, -List.length_flatMap, hy, h0, q1, k1, k2, k2', hF, hnext2]
          · have k1' : y.delay.op.isEmpty = false := by simpa using k1
            by_cases k2 : y.flags.op = []
            · simp only [Ex.markT, k1, k2, if_true, if_false, List.length_nil, List.length_cons] at hJl
              have q1 : out.length + 3 + y.node.name.length ≤ 9223372036854775807 := by omega
              simp -dsimp -implicitDefEqProofs +decide (maxSteps := 1000000) (disch := first | (with_reducible apply regOK_mk; kernel_rfl) | (with_reducible apply lenIs_mk; first | rfl | (simp only [go_sem])) | omega) [go_sem, -getElem?_pos, -List.length_flatMap, Ex.markT, k1, k2] at hnext2
              simp -dsimp -implicitDefEqProofs +decide (maxSteps := 1000000) (disch := first | (with_reducible apply regOK_mk; kernel_rfl) | (with_reducible apply lenIs_mk; first | rfl | (simp only [go_sem])) | omega) [go_sem, -getElem?_pos, -List.length_flatMap, hy, h0, q1, k1, k1', k2, hA, hnext2]
            · simp only [Ex.markT, k1, k2, if_true, if_false, List.length_nil, List.length_cons] at hJl
              have q1 : out.length + 3 + y.node.name.length ≤ 9223372036854775807 := by omega
              have k2' : y.flags.op.isEmpty = false := by simpa using k2
              simp -dsimp -implicitDefEqProofs +decide (maxSteps := 1000000) (disch := first | (with_reducible apply regOK_mk; kernel_rfl) | (with_reducible apply lenIs_mk; first | rfl | (simp only [go_sem])) | omega) [go_sem, -getElem?_pos, -List.length_flatMap, Ex.markT, k1, k2] at hnext2
              simp -dsimp -implicitDefEqProofs +decide (maxSteps := 1000000) (disch := first | (with_reducible apply regOK_mk; kernel_rfl) | (with_reducible apply lenIs_mk; first | rfl | (simp only [go_sem])) | omega) [go_sem, -getElem?_pos, -List.length_flatMap, hy, h0, q1, k1, k1', k2, k2', hA, hF, hnext2]
        · have h0 : j = 0 := of_decide_eq_true hI2.symm
          subst h0
          clear hI2
          simp only [if_true, Place.prts_cons, List.length_append, List.length_cons, List.length_nil, hsp] at hJ hJl
          have hnext2 := hnext2 (out ++ y.prt, false) ⟨by simp, by rw [(drop_cons hd2).2.2, hsp]; simp only [Bool.false_eq_true, if_false]; rw [← hJ]; simp⟩
          rw [hsp] at hnext2
          by_cases k1 : y.delay.op = []
          · by_cases k2 : y.flags.op = []
            · simp only [Ex.markT, k1, k2, if_true, List.length_nil] at hJl
              have q1 : out.length + y.node.name.length ≤ 9223372036854775807 := by omega
              simp -dsimp -implicitDefEqProofs +decide (maxSteps := 1000000) (disch := first | (with_reducible apply regOK_mk; kernel_rfl) | (with_reducible apply lenIs_mk; first | rfl | (simp only [go_sem])) | omega) [go_sem, -getElem?_pos, -List.length_flatMap, Ex.markT, k1, k2] at hnext2
              simp -dsimp -implicitDefEqProofs +decide (maxSteps := 1000000) (disch := first | (with_reducible apply regOK_mk; kernel_rfl) | (with_reducible apply lenIs_mk; first | rfl | (simp only [go_sem])) | omega) [go_sem, -getElem?_pos, -List.length_flatMap, hy, q1, k1, k2, hnext2]
            · simp only [Ex.markT, k1, k2, if_true, if_false, List.length_nil, List.length_cons] at hJl
              have q1 : out.length + y.node.name.length ≤ 9223372036854775807 := by omega
              have k2' : y.flags.op.isEmpty = false := by simpa using k2
              simp -dsimp -implicitDefEqProofs +decide (maxSteps := 1000000) (disch := first | (with_reducible apply regOK_mk; kernel_rfl) | (with_reducible apply lenIs_mk; first | rfl | (simp only [go_sem])) | omega) [go_sem, -getElem?_pos, -List.length_flatMap, Ex.markT, k1, k2] at hnext2
              simp -dsimp -implicitDefEqProofs +decide (maxSteps := 1000000) (disch := first | (with_reducible apply regOK_mk; kernel_rfl) | (with_reducible apply lenIs_mk; first | rfl | (simp only [go_sem])) | omega) [go_sem, -getElem?_pos, -List.length_flatMap, hy, q1, k1, k2, k2', hF, hnext2]
          · have k1' : y.delay.op.isEmpty = false := by simpa using k1
            by_cases k2 : y.flags.op = []
            · simp only [Ex.markT, k1, k2, if_true, if_false, List.length_nil, List.length_cons] at hJl
              have q1 : out.length + y.node.name.length ≤ 9223372036854775807 := by omega
              simp -dsimp -implicitDefEqProofs +decide (maxSteps := 1000000) (disch := first | (with_reducible apply regOK_mk; kernel_rfl) | (with_reducible apply lenIs_mk; first | rfl | (simp only [go_sem])) | omega) [go_sem, -getElem?_pos, -List.length_flatMap, Ex.markT, k1, k2] at hnext2
              simp -dsimp -implicitDefEqProofs +decide (maxSteps := 1000000) (disch := first | (with_reducible apply regOK_mk; kernel_rfl) | (with_reducible apply lenIs_mk; first | rfl | (simp only [go_sem])) | omega) [go_sem, -getElem?_pos, -List.length_flatMap, hy, q1, k1, k1', k2, hA, hnext2]
            · simp only [Ex.markT, k1, k2, if_true, if_false, List.length_nil, List.length_cons] at hJl
              have q1 : out.length + y.node.name.length ≤ 9223372036854775807 := by omega
              have k2' : y.flags.op.isEmpty = false := by simpa using k2
              simp -dsimp -implicitDefEqProofs +decide (maxSteps := 1000000) (disch := first | (with_reducible apply regOK_mk; kernel_rfl) | (with_reducible apply lenIs_mk; first | rfl | (simp only [go_sem])) | omega) [go_sem, -getElem?_pos, -List.length_flatMap, Ex.markT, k1, k2] at hnext2
              simp -dsimp -implicitDefEqProofs +decide (maxSteps := 1000000) (disch := first | (with_reducible apply regOK_mk; kernel_rfl) | (with_reducible apply lenIs_mk; first | rfl | (simp only [go_sem])) | omega) [go_sem, -getElem?_pos, -List.length_flatMap, hy, q1, k1, k1', k2, k2', hA, hF, hnext2]
    · have ex : x.prt = [63, 59, 10] := by simp [Decl.prt, h1, h2]
      rw [ex] at hnext hI ⊢
      simp only [List.length_append, List.length_cons, List.length_nil] at hI
      simp -dsimp -implicitDefEqProofs +decide (maxSteps := 1000000) (disch := first | (with_reducible apply regOK_mk; kernel_rfl) | (with_reducible apply lenIs_mk; first | rfl | (simp only [go_sem])) | omega) [go_sem, -getElem?_pos, -List.length_flatMap] at hnext
      simp -dsimp -implicitDefEqProofs +decide (maxSteps := 1000000) (disch := first | (with_reducible apply regOK_mk; kernel_rfl) | (with_reducible apply lenIs_mk; first | rfl | (simp only [go_sem])) | omega) [go_sem, -getElem?_pos, -List.length_flatMap, hx, h1, h2, hnext]
end Sh
