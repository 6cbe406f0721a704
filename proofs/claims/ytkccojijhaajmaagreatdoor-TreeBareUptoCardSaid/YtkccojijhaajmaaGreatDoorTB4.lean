/-
Text: digits, quotes: what the functions of the document's answer compute, over the interpreter.
-/
import Derived.Test.YtkccojijhaajmaaGreatDoorT1Lay
import Derived.Test.YtkccojijhaajmaaGreatDoorTB0
set_option linter.unusedSimpArgs false
set_option linter.unusedVariables false
set_option linter.unusedSectionVars false
set_option maxRecDepth 100000
set_option maxHeartbeats 4000000
set_option linter.unusedSimpArgs false
set_option linter.unusedVariables false
namespace Sh
open Go Go.Proofs

/-- a decimal digit -/
def dig (d : Nat) : UInt8 := UInt8.ofNat (48 + d)
def digs (n : Nat) (acc : List UInt8) : List UInt8 := if h : n < 10 then dig n :: acc else digs (n / 10) (dig (n % 10) :: acc)
  termination_by n
def itoa (n : Int) : List UInt8 := if n < 0 then 45 :: digs n.natAbs [] else digs n.natAbs []
/-- a hex digit -/
def hexd (d : Nat) : UInt8 := if d < 10 then UInt8.ofNat (48 + d) else UInt8.ofNat (87 + d)
/-- a byte as it is written in a text -/
def esc (c : UInt8) : List UInt8 := if c.toNat = 34 then [92, 34] else if c.toNat = 92 then [92, 92] else if c.toNat = 10 then [92, 110] else
  if 32 ≤ c.toNat ∧ c.toNat ≤ 126 then [c] else [92, 120, hexd (c.toNat / 16), hexd (c.toNat % 16)]
def quo (l : List UInt8) : List UInt8 := 34 :: (l.flatMap esc ++ [34])
theorem esc_len (c : UInt8) : (esc c).length ≤ 4 := by
  unfold esc
  split
  · simp
  · split
    · simp
    · split
      · simp
      · split <;> simp
theorem escs_len (l : List UInt8) : (l.flatMap esc).length ≤ 4 * l.length := by
  induction l with
  | nil => simp
  | cons c l ih => have := esc_len c; simp only [List.flatMap_cons, List.length_append, List.length_cons]; omega

theorem letter_spec (d : Int) (h : 0 ≤ d ∧ d < 16) : acall cx 102 [.int .u8 d] [] = some (.int .u8 (hexd d.toNat).toNat, []) := by
  rw [acall_of rfl Tryz.func102 rfl]
  by_cases h1 : d < 10
  · have e : ((hexd d.toNat).toNat : Int) = 48 + d := by
      have : d.toNat < 10 := by omega
      simp [hexd, this]; omega
    rw [e]
    simp -dsimp -implicitDefEqProofs +decide (maxSteps := 1000000) (disch := first | (with_reducible apply regOK_mk; kernel_rfl) | (with_reducible apply lenIs_mk; first | rfl | (simp only [go_sem])) | omega) [go_sem, -getElem?_pos, -List.length_flatMap]
  · have e : ((hexd d.toNat).toNat : Int) = 87 + d := by
      have : ¬ d.toNat < 10 := by omega
      simp [hexd, this]; omega
    rw [e]
    simp -dsimp -implicitDefEqProofs +decide (maxSteps := 1000000) (disch := first | (with_reducible apply regOK_mk; kernel_rfl) | (with_reducible apply lenIs_mk; first | rfl | (simp only [go_sem])) | omega) [go_sem, -getElem?_pos, -List.length_flatMap]
    omega

theorem hex1_spec (c : UInt8) : acall cx 80 [.dsl [u8 c]] [] = some (.str [hexd (c.toNat / 16), hexd (c.toNat % 16)], []) := by
  have hc := c.toNat_lt
  rw [acall_of rfl Tryz.func80 rfl]
  simp -dsimp -implicitDefEqProofs +decide (maxSteps := 1000000) (disch := first | (with_reducible apply regOK_mk; kernel_rfl) | (with_reducible apply lenIs_mk; first | rfl | (simp only [go_sem])) | omega) [go_sem, -getElem?_pos, -List.length_flatMap]
  rw [lpc_eq]
  simp -dsimp -implicitDefEqProofs +decide (maxSteps := 1000000) (disch := first | (with_reducible apply regOK_mk; kernel_rfl) | (with_reducible apply lenIs_mk; first | rfl | (simp only [go_sem])) | omega) [go_sem, -getElem?_pos, -List.length_flatMap, u8, letter_spec]
  rw [lpc_eq]
  simp -dsimp -implicitDefEqProofs +decide (maxSteps := 1000000) (disch := first | (with_reducible apply regOK_mk; kernel_rfl) | (with_reducible apply lenIs_mk; first | rfl | (simp only [go_sem])) | omega) [go_sem, -getElem?_pos, -List.length_flatMap]
  exact ⟨congrArg hexd (by omega), congrArg hexd (by omega)⟩

theorem slice1 {l : List UInt8} {i : Nat} {c : UInt8} (h : l[i]? = some c) : List.drop i (List.take (i + 1) (l.map u8)) = [.int .u8 c.toNat] := by
  have hi : i < l.length := (List.getElem?_eq_some_iff.1 h).1
  have hc : l[i] = c := (List.getElem?_eq_some_iff.1 h).2
  rw [List.take_add_one, List.drop_append_of_le_length (by simp; omega), List.drop_of_length_le (by simp; omega)]
  simp [List.getElem?_map, h, u8]

theorem quote_spec (l : List UInt8) (hl : l.length ≤ 4294967296) : acall cx 56 [.dsl (l.map u8)] [] = some (.str (quo l), []) := by
  rw [acall_of rfl Tryz.func56 rfl, quo]
  conv => lhs; simp -dsimp -implicitDefEqProofs +decide (maxSteps := 1000000) (disch := first | (with_reducible apply regOK_mk; kernel_rfl) | (with_reducible apply lenIs_mk; first | rfl | (simp only [go_sem])) | omega) [go_sem, -getElem?_pos, -List.length_flatMap]
  refine Eq.trans (loop_list l (fun i (acc : List UInt8) => ([(0, .dsl (l.map u8)), (3, .str acc), (4, .int .i64 i)], [])) (fun i acc => acc.length ≤ 4 * i + 1) (fun post acc => some (.str (acc ++ (post.flatMap esc ++ [34])), [])) ?_ ?_ [34] (by simp)) (by simp)
  · intro i acc hi hI
    rw [lpc_eq]
    simp -dsimp -implicitDefEqProofs +decide (maxSteps := 1000000) (disch := first | (with_reducible apply regOK_mk; kernel_rfl) | (with_reducible apply lenIs_mk; first | rfl | (simp only [go_sem])) | omega) [go_sem, -getElem?_pos, -List.length_flatMap, hi, List.flatMap_nil]
  · intro i c r acc hd hx hi hm hI hnext
    have hc := c.toNat_lt
    have hsl := slice1 hx
    have hnext := hnext (acc ++ esc c) (by have := esc_len c; simp only [List.length_append]; omega)
    rw [lpc_eq]
    by_cases h1 : c.toNat = 34
    · simp -dsimp -implicitDefEqProofs +decide (maxSteps := 1000000) (disch := first | (with_reducible apply regOK_mk; kernel_rfl) | (with_reducible apply lenIs_mk; first | rfl | (simp only [go_sem])) | omega) [go_sem, -getElem?_pos, -List.length_flatMap, esc, h1] at hnext
      simp -dsimp -implicitDefEqProofs +decide (maxSteps := 1000000) (disch := first | (with_reducible apply regOK_mk; kernel_rfl) | (with_reducible apply lenIs_mk; first | rfl | (simp only [go_sem])) | omega) [go_sem, -getElem?_pos, -List.length_flatMap, hx, u8, h1, u8, esc, hnext]
    by_cases h2 : c.toNat = 92
    · simp -dsimp -implicitDefEqProofs +decide (maxSteps := 1000000) (disch := first | (with_reducible apply regOK_mk; kernel_rfl) | (with_reducible apply lenIs_mk; first | rfl | (simp only [go_sem])) | omega) [go_sem, -getElem?_pos, -List.length_flatMap, esc, h2] at hnext
      simp -dsimp -implicitDefEqProofs +decide (maxSteps := 1000000) (disch := first | (with_reducible apply regOK_mk; kernel_rfl) | (with_reducible apply lenIs_mk; first | rfl | (simp only [go_sem])) | omega) [go_sem, -getElem?_pos, -List.length_flatMap, hx, u8, h2, u8, esc, hnext]
    by_cases h3 : c.toNat = 10
    · simp -dsimp -implicitDefEqProofs +decide (maxSteps := 1000000) (disch := first | (with_reducible apply regOK_mk; kernel_rfl) | (with_reducible apply lenIs_mk; first | rfl | (simp only [go_sem])) | omega) [go_sem, -getElem?_pos, -List.length_flatMap, esc, h3] at hnext
      simp -dsimp -implicitDefEqProofs +decide (maxSteps := 1000000) (disch := first | (with_reducible apply regOK_mk; kernel_rfl) | (with_reducible apply lenIs_mk; first | rfl | (simp only [go_sem])) | omega) [go_sem, -getElem?_pos, -List.length_flatMap, hx, u8, h3, u8, esc, hnext]
    by_cases h4 : 32 ≤ c.toNat
    case neg =>
      simp -dsimp -implicitDefEqProofs +decide (maxSteps := 1000000) (disch := first | (with_reducible apply regOK_mk; kernel_rfl) | (with_reducible apply lenIs_mk; first | rfl | (simp only [go_sem])) | omega) [go_sem, -getElem?_pos, -List.length_flatMap, esc, h1, h2, h3, h4] at hnext
      have hx1 := hex1_spec c
      unfold u8 at hx1
      simp -dsimp -implicitDefEqProofs +decide (maxSteps := 1000000) (disch := first | (with_reducible apply regOK_mk; kernel_rfl) | (with_reducible apply lenIs_mk; first | rfl | (simp only [go_sem])) | omega) [go_sem, -getElem?_pos, -List.length_flatMap, hx, u8, h1, h2, h3, h4, hx1, esc, hsl, hnext]
    by_cases h5 : c.toNat ≤ 126
    · simp -dsimp -implicitDefEqProofs +decide (maxSteps := 1000000) (disch := first | (with_reducible apply regOK_mk; kernel_rfl) | (with_reducible apply lenIs_mk; first | rfl | (simp only [go_sem])) | omega) [go_sem, -getElem?_pos, -List.length_flatMap, esc, h1, h2, h3, h4, h5] at hnext
      simp -dsimp -implicitDefEqProofs +decide (maxSteps := 1000000) (disch := first | (with_reducible apply regOK_mk; kernel_rfl) | (with_reducible apply lenIs_mk; first | rfl | (simp only [go_sem])) | omega) [go_sem, -getElem?_pos, -List.length_flatMap, hx, u8, h1, h2, h3, h4, h5, esc, hsl, hnext]
    · simp -dsimp -implicitDefEqProofs +decide (maxSteps := 1000000) (disch := first | (with_reducible apply regOK_mk; kernel_rfl) | (with_reducible apply lenIs_mk; first | rfl | (simp only [go_sem])) | omega) [go_sem, -getElem?_pos, -List.length_flatMap, esc, h1, h2, h3, h4, h5] at hnext
      have hx1 := hex1_spec c
      unfold u8 at hx1
      simp -dsimp -implicitDefEqProofs +decide (maxSteps := 1000000) (disch := first | (with_reducible apply regOK_mk; kernel_rfl) | (with_reducible apply lenIs_mk; first | rfl | (simp only [go_sem])) | omega) [go_sem, -getElem?_pos, -List.length_flatMap, hx, u8, h1, h2, h3, h4, h5, hx1, esc, hsl, hnext]
end Sh
