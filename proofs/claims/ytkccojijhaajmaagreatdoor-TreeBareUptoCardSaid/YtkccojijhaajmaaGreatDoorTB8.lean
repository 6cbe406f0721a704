/-
Trees: their text, whole.
-/
import Derived.Test.YtkccojijhaajmaaGreatDoorTB7
import Derived.Test.YtkccojijhaajmaaGreatDoorTB3
set_option linter.unusedSimpArgs false
set_option linter.unusedVariables false
set_option linter.unusedSectionVars false
set_option maxRecDepth 100000
set_option maxHeartbeats 4000000
set_option linter.unusedSimpArgs false
set_option linter.unusedVariables false
namespace Sh
open Go Go.Proofs

def Ex.atomT (e : Ex) : List UInt8 := if e.op = [110, 117, 109, 98, 101, 114] ∨ e.op = [110, 97, 109, 101] then e.pr 0 else 40 :: (e.pr 0 ++ [41])
def Stmt.line (s : Stmt) : List UInt8 × Bool :=
  if s.kind = [115, 101, 110, 100] then ([115, 101, 110, 100, 32] ++ (s.a.pr 0 ++ ([32, 118, 105, 97, 32] ++ (Ref.names s.routes ++ (s.block.withT [119, 105, 116, 104] ++ s.tag.withT [97, 115])))), false)
  else if s.kind = [115, 112, 108, 105, 116] then ([115, 112, 108, 105, 116, 32] ++ (s.a.pr 0 ++ ([32, 118, 105, 97, 32] ++ (Ref.names s.routes ++ s.tag.withT [97, 115]))), false)
  else if s.kind = [99, 111, 118, 101, 114] then ([99, 111, 118, 101, 114, 32] ++ Ref.names s.routes, false)
  else if s.kind = [119, 97, 105, 116] then ([119, 97, 105, 116, 32] ++ s.a.pr 0, false)
  else if s.kind = [98, 108, 111, 99, 107] then ([98, 108, 111, 99, 107, 32] ++ (s.name.name ++ ([32, 118, 105, 97, 32] ++ Ref.names s.routes)), false)
  else if s.kind = [114, 101, 116, 114, 121] then ([114, 101, 116, 114, 121, 32] ++ (s.a.pr 0 ++ ([32, 101, 118, 101, 114, 121, 32] ++ (s.b.pr 0 ++ ([32, 115, 101, 110, 100, 32] ++ (s.c.pr 0 ++ ([32, 118, 105, 97, 32] ++ (Ref.names s.routes ++ s.tag.withT [97, 115]))))))), false)
  else if s.kind = [101, 118, 101, 114, 121] then ([101, 118, 101, 114, 121, 32] ++ (s.a.pr 0 ++ ([32, 116, 105, 109, 101, 115, 32] ++ (s.b.pr 0 ++ ([32, 99, 111, 118, 101, 114, 32] ++ Ref.names s.routes)))), false)
  else if s.kind = [97, 102, 116, 101, 114] then ([97, 102, 116, 101, 114, 32] ++ s.a.pr 0, true)
  else if s.kind = [114, 101, 112, 101, 97, 116] then ([114, 101, 112, 101, 97, 116, 32] ++ (s.name.name ++ (32 :: s.a.pr 0)), true)
  else if s.kind = [105, 102] then ([105, 102, 32, 97, 99, 107, 101, 100, 32] ++ s.tag.name, true)
  else ([63], false)
/-- the numbers of a statement itself fit -/
def Stmt.fits1 (s : Stmt) : Prop := s.a.fits ∧ s.b.fits ∧ s.c.fits
theorem Stmt.line_len (s : Stmt) (hf : s.fits1) : s.line.1.length ≤ 6 * s.bulk + 40 := by
  have ha := Ex.pr_len _ s.a 0 (Nat.lt_succ_self _) hf.1
  have hb := Ex.pr_len _ s.b 0 (Nat.lt_succ_self _) hf.2.1
  have hc := Ex.pr_len _ s.c 0 (Nat.lt_succ_self _) hf.2.2
  have hr := Ref.names_len s.routes
  have h1 := Ref.withT_len [119, 105, 116, 104] s.block
  have h2 := Ref.withT_len [97, 115] s.tag
  have hbe := s.bulk_eq
  have e1 : s.name.bulk = s.name.name.length + 2 := rfl
  have e2 : s.tag.bulk = s.tag.name.length + 2 := rfl
  simp only [List.length_cons, List.length_nil] at h1 h2
  unfold Stmt.line
  repeat' split
  all_goals simp only [List.length_append, List.length_cons, List.length_nil]
  all_goals omega
mutual
def Stmt.prt : Stmt → List UInt8 → List UInt8
  | .mk kind pos name a b c routes block tag body els, inn =>
    let l := (Stmt.mk kind pos name a b c routes block tag [] []).line
    if l.2 then inn ++ (l.1 ++ ([32, 123, 10] ++ (Stmt.prts body (inn ++ [32, 32]) ++ ((if kind = [105, 102] ∧ els.length ≠ 0 then inn ++ ([125, 32, 101, 108, 115, 101, 32, 123, 10] ++ Stmt.prts els (inn ++ [32, 32])) else []) ++ (inn ++ [125, 10])))))
    else inn ++ (l.1 ++ [59, 10])
def Stmt.prts : List Stmt → List UInt8 → List UInt8
  | [], _ => []
  | s :: r, inn => s.prt inn ++ Stmt.prts r inn
end
theorem Stmt.prt_eq (s : Stmt) (inn : List UInt8) : s.prt inn = if s.line.2 then inn ++ (s.line.1 ++ ([32, 123, 10] ++ (Stmt.prts s.body (inn ++ [32, 32]) ++ ((if s.kind = [105, 102] ∧ s.els.length ≠ 0 then inn ++ ([125, 32, 101, 108, 115, 101, 32, 123, 10] ++ Stmt.prts s.els (inn ++ [32, 32])) else []) ++ (inn ++ [125, 10])))))
    else inn ++ (s.line.1 ++ [59, 10]) := by
  cases s; rw [Stmt.prt]; rfl
mutual
def Stmt.fits : Stmt → Prop
  | .mk _ _ _ a b c _ _ _ body els => (a.fits ∧ b.fits ∧ c.fits) ∧ Stmt.fitsL body ∧ Stmt.fitsL els
def Stmt.fitsL : List Stmt → Prop
  | [] => True
  | s :: r => s.fits ∧ Stmt.fitsL r
end
theorem Stmt.fits_eq (s : Stmt) : s.fits = (s.fits1 ∧ Stmt.fitsL s.body ∧ Stmt.fitsL s.els) := by cases s; rfl
theorem Stmt.fits_mem {x : Stmt} : ∀ {l : List Stmt}, Stmt.fitsL l → x ∈ l → x.fits
  | e :: r, h, hm => by
    rcases List.mem_cons.1 hm with rfl | hm
    · exact h.1
    · exact Stmt.fits_mem h.2 hm

theorem atomText_spec (e : Ex) (h : e.bulk < 4294967296) (hf : e.fits) : acall cx 26 [.agg e.cells] [] = some (.str e.atomT, []) := by
  have hE := expr_spec _ e 0 h (by omega) hf
  have hl := Ex.pr_len _ e 0 h hf
  rw [acall_of rfl Tryz.func26 rfl, Ex.atomT]
  by_cases h1 : e.op = [110, 117, 109, 98, 101, 114]
  · simp -dsimp -implicitDefEqProofs +decide (maxSteps := 1000000) (disch := first | (with_reducible apply regOK_mk; kernel_rfl) | (with_reducible apply lenIs_mk; first | rfl | (simp only [go_sem])) | omega) [go_sem, -getElem?_pos, -List.length_flatMap, h1, hE]
  by_cases h2 : e.op = [110, 97, 109, 101]
  · simp -dsimp -implicitDefEqProofs +decide (maxSteps := 1000000) (disch := first | (with_reducible apply regOK_mk; kernel_rfl) | (with_reducible apply lenIs_mk; first | rfl | (simp only [go_sem])) | omega) [go_sem, -getElem?_pos, -List.length_flatMap, h2, hE]
  · simp -dsimp -implicitDefEqProofs +decide (maxSteps := 1000000) (disch := first | (with_reducible apply regOK_mk; kernel_rfl) | (with_reducible apply lenIs_mk; first | rfl | (simp only [go_sem])) | omega) [go_sem, -getElem?_pos, -List.length_flatMap, h1, h2, hE]

theorem line_spec (s : Stmt) (h : s.bulk < 4294967296) (hf : s.fits1) : acall cx 57 [.agg s.cells] [] = some (.tup [.str s.line.1, .bool s.line.2], []) := by
  have hbe := s.bulk_eq
  have ha := expr_spec 4294967296 s.a 0 (by omega) (by omega) hf.1
  have hb := expr_spec 4294967296 s.b 0 (by omega) (by omega) hf.2.1
  have hc := expr_spec 4294967296 s.c 0 (by omega) (by omega) hf.2.2
  have la := Ex.pr_len _ s.a 0 (Nat.lt_succ_self _) hf.1
  have lb := Ex.pr_len _ s.b 0 (Nat.lt_succ_self _) hf.2.1
  have lc := Ex.pr_len _ s.c 0 (Nat.lt_succ_self _) hf.2.2
  have hr := list_spec s.routes (by omega)
  have lr := Ref.names_len s.routes
  have h1 := with_spec [119, 105, 116, 104] s.block (by simp) (by omega)
  have h2 := with_spec [97, 115] s.tag (by simp) (by omega)
  have l1 := Ref.withT_len [119, 105, 116, 104] s.block
  have l2 := Ref.withT_len [97, 115] s.tag
  have e1 : s.name.bulk = s.name.name.length + 2 := rfl
  have e2 : s.tag.bulk = s.tag.name.length + 2 := rfl
  simp only [List.length_cons, List.length_nil] at l1 l2
  rw [acall_of rfl Tryz.func57 rfl, Stmt.line]
  by_cases k1 : s.kind = [115, 101, 110, 100]
  · simp -dsimp -implicitDefEqProofs +decide (maxSteps := 1000000) (disch := first | (with_reducible apply regOK_mk; kernel_rfl) | (with_reducible apply lenIs_mk; first | rfl | (simp only [go_sem])) | omega) [go_sem, -getElem?_pos, -List.length_flatMap, k1, ha, hr, h1, h2]
  by_cases k2 : s.kind = [115, 112, 108, 105, 116]
  · simp -dsimp -implicitDefEqProofs +decide (maxSteps := 1000000) (disch := first | (with_reducible apply regOK_mk; kernel_rfl) | (with_reducible apply lenIs_mk; first | rfl | (simp only [go_sem])) | omega) [go_sem, -getElem?_pos, -List.length_flatMap, k2, ha, hr, h2]
  by_cases k3 : s.kind = [99, 111, 118, 101, 114]
  · simp -dsimp -implicitDefEqProofs +decide (maxSteps := 1000000) (disch := first | (with_reducible apply regOK_mk; kernel_rfl) | (with_reducible apply lenIs_mk; first | rfl | (simp only [go_sem])) | omega) [go_sem, -getElem?_pos, -List.length_flatMap, k3, hr]
  by_cases k4 : s.kind = [119, 97, 105, 116]
  · simp -dsimp -implicitDefEqProofs +decide (maxSteps := 1000000) (disch := first | (with_reducible apply regOK_mk; kernel_rfl) | (with_reducible apply lenIs_mk; first | rfl | (simp only [go_sem])) | omega) [go_sem, -getElem?_pos, -List.length_flatMap, k4, ha]
  by_cases k5 : s.kind = [98, 108, 111, 99, 107]
  · simp -dsimp -implicitDefEqProofs +decide (maxSteps := 1000000) (disch := first | (with_reducible apply regOK_mk; kernel_rfl) | (with_reducible apply lenIs_mk; first | rfl | (simp only [go_sem])) | omega) [go_sem, -getElem?_pos, -List.length_flatMap, k5, hr]
  by_cases k6 : s.kind = [114, 101, 116, 114, 121]
  · simp -dsimp -implicitDefEqProofs +decide (maxSteps := 1000000) (disch := first | (with_reducible apply regOK_mk; kernel_rfl) | (with_reducible apply lenIs_mk; first | rfl | (simp only [go_sem])) | omega) [go_sem, -getElem?_pos, -List.length_flatMap, k6, ha, hb, hc, hr, h2]
  by_cases k7 : s.kind = [101, 118, 101, 114, 121]
  · simp -dsimp -implicitDefEqProofs +decide (maxSteps := 1000000) (disch := first | (with_reducible apply regOK_mk; kernel_rfl) | (with_reducible apply lenIs_mk; first | rfl | (simp only [go_sem])) | omega) [go_sem, -getElem?_pos, -List.length_flatMap, k7, ha, hb, hr]
  by_cases k8 : s.kind = [97, 102, 116, 101, 114]
  · simp -dsimp -implicitDefEqProofs +decide (maxSteps := 1000000) (disch := first | (with_reducible apply regOK_mk; kernel_rfl) | (with_reducible apply lenIs_mk; first | rfl | (simp only [go_sem])) | omega) [go_sem, -getElem?_pos, -List.length_flatMap, k8, ha]
  by_cases k9 : s.kind = [114, 101, 112, 101, 97, 116]
  · simp -dsimp -implicitDefEqProofs +decide (maxSteps := 1000000) (disch := first | (with_reducible apply regOK_mk; kernel_rfl) | (with_reducible apply lenIs_mk; first | rfl | (simp only [go_sem])) | omega) [go_sem, -getElem?_pos, -List.length_flatMap, k9, ha]
  by_cases k10 : s.kind = [105, 102]
  · simp -dsimp -implicitDefEqProofs +decide (maxSteps := 1000000) (disch := first | (with_reducible apply regOK_mk; kernel_rfl) | (with_reducible apply lenIs_mk; first | rfl | (simp only [go_sem])) | omega) [go_sem, -getElem?_pos, -List.length_flatMap, k10]
  · simp -dsimp -implicitDefEqProofs +decide (maxSteps := 1000000) (disch := first | (with_reducible apply regOK_mk; kernel_rfl) | (with_reducible apply lenIs_mk; first | rfl | (simp only [go_sem])) | omega) [go_sem, -getElem?_pos, -List.length_flatMap, k1, k2, k3, k4, k5, k6, k7, k8, k9, k10]
end Sh
