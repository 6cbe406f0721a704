/-
Trees: their text.
-/
import Derived.Test.YtkccojijhaajmaaGreatDoorTB5
set_option linter.unusedSimpArgs false
set_option linter.unusedVariables false
set_option linter.unusedSectionVars false
set_option maxRecDepth 100000
set_option maxHeartbeats 4000000
set_option linter.unusedSimpArgs false
set_option linter.unusedVariables false
namespace Sh
open Go Go.Proofs
abbrev InR (n : Int) : Prop := -9223372036854775808 ≤ n ∧ n ≤ 9223372036854775807
mutual
def Ex.fits : Ex → Prop
  | .mk _ n _ _ ds => InR n ∧ Ex.fitsL ds
def Ex.fitsL : List Ex → Prop
  | [] => True
  | e :: r => e.fits ∧ Ex.fitsL r
end
theorem Ex.fits_eq (e : Ex) : e.fits = (InR e.num ∧ Ex.fitsL e.args) := by cases e; simp only [Ex.fits, Ex.num, Ex.args]
theorem Ex.fits_mem {x : Ex} : ∀ {l : List Ex}, Ex.fitsL l → x ∈ l → x.fits
  | e :: r, h, hm => by
    rcases List.mem_cons.1 hm with rfl | hm
    · exact h.1
    · exact Ex.fits_mem h.2 hm
def bin (a op b : List UInt8) : List UInt8 := a ++ (32 :: (op ++ (32 :: b)))
def paren (p : Prop) [Decidable p] (s : List UInt8) : List UInt8 := if p then 40 :: (s ++ [41]) else s
mutual
def Ex.pr : Ex → Int → List UInt8
  | .mk op n t _ ds, inside =>
    if op = [110, 117, 109, 98, 101, 114] then itoa n else if op = [110, 97, 109, 101] then t else if op = [116, 101, 120, 116] then quo t
    else if op = [106, 111, 105, 110] then [106, 111, 105, 110, 40] ++ (Ex.prJ ds ++ [41])
    else if op = [43] ∨ op = [45] then (match Ex.pr2 ds 1 2 with | some s => paren (2 ≤ inside) (bin s.1 op s.2) | none => [63])
    else if op = [42] then (match Ex.pr2 ds 2 3 with | some s => paren (3 ≤ inside) (bin s.1 op s.2) | none => [63])
    else [63]
def Ex.pr2 : List Ex → Int → Int → Option (List UInt8 × List UInt8)
  | [], _, _ => none
  | a :: r, x, y => match Ex.pr1 r y with
    | some s => some (a.pr x, s)
    | none => none
def Ex.pr1 : List Ex → Int → Option (List UInt8)
  | [], _ => none
  | b :: r, y => match r with
    | [] => some (b.pr y)
    | _ :: _ => none
def Ex.prJ : List Ex → List UInt8
  | [] => []
  | e :: r => e.pr 0 ++ Ex.prT r
def Ex.prT : List Ex → List UInt8
  | [] => []
  | e :: r => [44, 32] ++ (e.pr 0 ++ Ex.prT r)
end
theorem Ex.pr_eq (e : Ex) (i : Int) : e.pr i = if e.op = [110, 117, 109, 98, 101, 114] then itoa e.num else if e.op = [110, 97, 109, 101] then e.text else if e.op = [116, 101, 120, 116] then quo e.text
    else if e.op = [106, 111, 105, 110] then [106, 111, 105, 110, 40] ++ (Ex.prJ e.args ++ [41])
    else if e.op = [43] ∨ e.op = [45] then (match Ex.pr2 e.args 1 2 with | some s => paren (2 ≤ i) (bin s.1 e.op s.2) | none => [63])
    else if e.op = [42] then (match Ex.pr2 e.args 2 3 with | some s => paren (3 ≤ i) (bin s.1 e.op s.2) | none => [63])
    else [63] := by
  cases e; simp only [Ex.pr, Ex.op, Ex.num, Ex.text, Ex.args]; rfl
theorem Ex.pr2_two (a b : Ex) (x y : Int) : Ex.pr2 [a, b] x y = some (a.pr x, b.pr y) := by simp [Ex.pr2, Ex.pr1]
theorem Ex.pr2_not {l : List Ex} (h : l.length ≠ 2) (x y : Int) : Ex.pr2 l x y = none := by
  match l, h with
  | [], _ => rfl
  | [a], _ => simp [Ex.pr2, Ex.pr1]
  | a :: b :: c :: r, _ => simp [Ex.pr2, Ex.pr1]
  | [a, b], h => simp at h
theorem quo_len (l : List UInt8) : (quo l).length ≤ 4 * l.length + 2 := by
  have := escs_len l; simp only [quo, List.length_cons, List.length_append, List.length_nil]; omega
theorem Ex.pr_len : ∀ (n : Nat) (e : Ex) (i : Int), e.bulk < n → e.fits → (e.pr i).length + 4 ≤ 6 * e.bulk := by
  intro n
  induction n with
  | zero => intro e i h; omega
  | succ n ih =>
    intro e i h hf
    have hb := e.bulk_eq
    rw [Ex.fits_eq] at hf
    have hT : ∀ l, Ex.bulkL l < n → Ex.fitsL l → (Ex.prT l).length ≤ 6 * Ex.bulkL l := by
      intro l
      induction l with
      | nil => intro _ _; simp [Ex.prT]
      | cons x r ihr =>
        intro h1 h2
        simp only [Ex.bulkL] at h1
        have := ih x 0 (by omega) h2.1
        have := ihr (by omega) h2.2
        simp only [Ex.prT, Ex.bulkL, List.length_append, List.length_cons, List.length_nil]; omega
    have hJ : (Ex.prJ e.args).length ≤ 6 * Ex.bulkL e.args := by
      cases hargs : e.args with
      | nil => simp [Ex.prJ]
      | cons x r =>
        rw [hargs] at hb hf
        simp only [Ex.bulkL] at hb
        have := ih x 0 (by omega) hf.2.1
        have := hT r (by omega) hf.2.2
        simp only [Ex.prJ, Ex.bulkL, List.length_append]; omega
    have h2 : ∀ x y s, Ex.pr2 e.args x y = some s → s.1.length + s.2.length + 8 ≤ 6 * Ex.bulkL e.args := by
      intro x y s hs
      by_cases hl : e.args.length = 2
      · obtain ⟨a, b, hab⟩ : ∃ a b, e.args = [a, b] := by
          match e.args, hl with
          | [a, b], _ => exact ⟨a, b, rfl⟩
        rw [hab] at hs hb hf ⊢
        rw [Ex.pr2_two] at hs
        cases hs
        simp only [Ex.bulkL] at hb ⊢
        have := ih a x (by omega) hf.2.1
        have := ih b y (by omega) hf.2.2.1
        omega
      · rw [Ex.pr2_not hl] at hs; cases hs
    have hq := quo_len e.text
    have hi := itoa_len hf.1
    rw [Ex.pr_eq]
    repeat' split
    all_goals try simp only [List.length_append, List.length_cons, List.length_nil]
    all_goals try omega
    all_goals
      rename_i hs
      have := h2 _ _ _ hs
      unfold paren bin
      split <;> simp only [List.length_append, List.length_cons, List.length_nil] <;> omega

def Ref.withT (w : List UInt8) (r : Ref) : List UInt8 := if r.name = [] then [] else 32 :: (w ++ (32 :: r.name))
def Ref.namesT : List Ref → List UInt8
  | [] => []
  | r :: l => [44, 32] ++ (r.name ++ Ref.namesT l)
def Ref.names : List Ref → List UInt8
  | [] => []
  | r :: l => r.name ++ Ref.namesT l
theorem Ref.namesT_len : ∀ l : List Ref, (Ref.namesT l).length ≤ Ref.bulkL l
  | [] => by simp [Ref.namesT]
  | r :: l => by have := Ref.namesT_len l; simp only [Ref.namesT, Ref.bulkL, Ref.bulk, List.length_append, List.length_cons, List.length_nil]; omega
theorem Ref.names_len : ∀ l : List Ref, (Ref.names l).length ≤ Ref.bulkL l
  | [] => by simp [Ref.names]
  | r :: l => by have := Ref.namesT_len l; simp only [Ref.names, Ref.bulkL, Ref.bulk, List.length_append]; omega
theorem Ref.withT_len (w : List UInt8) (r : Ref) : (r.withT w).length ≤ w.length + r.bulk := by
  unfold Ref.withT Ref.bulk; split
  · simp
  · simp only [List.length_append, List.length_cons]; omega

theorem with_spec (w : List UInt8) (r : Ref) (hw : w.length ≤ 4294967296) (hr : r.bulk ≤ 4294967296) : acall cx 82 [.str w, .agg r.cells] [] = some (.str (r.withT w), []) := by
  unfold Ref.bulk at hr
  rw [acall_of rfl Tryz.func82 rfl, Ref.withT]
  by_cases h : r.name = []
  · simp -dsimp -implicitDefEqProofs +decide (maxSteps := 1000000) (disch := first | (with_reducible apply regOK_mk; kernel_rfl) | (with_reducible apply lenIs_mk; first | rfl | (simp only [go_sem])) | omega) [go_sem, -getElem?_pos, -List.length_flatMap, h]
  · have h' : r.name.isEmpty = false := by simpa using h
    simp -dsimp -implicitDefEqProofs +decide (maxSteps := 1000000) (disch := first | (with_reducible apply regOK_mk; kernel_rfl) | (with_reducible apply lenIs_mk; first | rfl | (simp only [go_sem])) | omega) [go_sem, -getElem?_pos, -List.length_flatMap, h, h']

theorem list_spec (l : List Ref) (h : Ref.bulkL l ≤ 4294967296) : acall cx 81 [.dsl (l.map Ref.av)] [] = some (.str (Ref.names l), []) := by
  have hl := Ref.len_bulkL l
  rw [acall_of rfl Tryz.func81 rfl]
  conv => lhs; simp -dsimp -implicitDefEqProofs +decide (maxSteps := 1000000) (disch := first | (with_reducible apply regOK_mk; kernel_rfl) | (with_reducible apply lenIs_mk; first | rfl | (simp only [go_sem])) | omega) [go_sem, -getElem?_pos, -List.length_flatMap]
  refine Eq.trans (loop_list l (fun i (s : List UInt8 × Bool) => ([(0, .dsl (l.map Ref.av)), (3, .str s.1), (4, .int .i64 i)], [])) (fun i s => s.2 = decide (i = 0) ∧ s.1.length + Ref.bulkL (l.drop i) ≤ Ref.bulkL l) (fun post s => some (.str (s.1 ++ if s.2 then Ref.names post else Ref.namesT post), [])) ?_ ?_ ([], true) ⟨rfl, by simp⟩) rfl
  · rintro i ⟨acc, fl⟩ hi ⟨hI, hJ⟩
    dsimp only at hI hJ ⊢
    rw [lpc_eq]
    cases fl <;> simp -dsimp -implicitDefEqProofs +decide (maxSteps := 1000000) (disch := first | (with_reducible apply regOK_mk; kernel_rfl) | (with_reducible apply lenIs_mk; first | rfl | (simp only [go_sem])) | omega) [go_sem, -getElem?_pos, -List.length_flatMap, hi, Ref.names, Ref.namesT]
  · rintro i x r ⟨acc, fl⟩ hd hx hi hm ⟨hI, hJ⟩ hnext
    dsimp only at hI hJ ⊢
    rw [hd] at hJ
    simp only [Ref.bulkL, Ref.bulk] at hJ
    rw [lpc_eq]
    cases fl
    · have h0 : 0 < i := by
        have := of_decide_eq_false hI.symm; omega
      have hnext := hnext (acc ++ ([44, 32] ++ x.name), false) ⟨by simp, by rw [(drop_cons hd).2.2]; simp only [List.length_append, List.length_cons, List.length_nil]; omega⟩
      simp -dsimp -implicitDefEqProofs +decide (maxSteps := 1000000) (disch := first | (with_reducible apply regOK_mk; kernel_rfl) | (with_reducible apply lenIs_mk; first | rfl | (simp only [go_sem])) | omega) [go_sem, -getElem?_pos, -List.length_flatMap, Ref.namesT] at hnext
      simp -dsimp -implicitDefEqProofs +decide (maxSteps := 1000000) (disch := first | (with_reducible apply regOK_mk; kernel_rfl) | (with_reducible apply lenIs_mk; first | rfl | (simp only [go_sem])) | omega) [go_sem, -getElem?_pos, -List.length_flatMap, hx, Ref.namesT, hnext, h0]
    · have h0 : i = 0 := of_decide_eq_true hI.symm
      subst h0
      clear hI
      have hnext := hnext (acc ++ x.name, false) ⟨by simp, by rw [(drop_cons hd).2.2]; simp only [List.length_append]; omega⟩
      simp -dsimp -implicitDefEqProofs +decide (maxSteps := 1000000) (disch := first | (with_reducible apply regOK_mk; kernel_rfl) | (with_reducible apply lenIs_mk; first | rfl | (simp only [go_sem])) | omega) [go_sem, -getElem?_pos, -List.length_flatMap, Ref.names] at hnext
      have hq : acc.length + x.name.length ≤ 9223372036854775807 := by omega
      simp -dsimp -implicitDefEqProofs +decide (maxSteps := 1000000) (disch := first | (with_reducible apply regOK_mk; kernel_rfl) | (with_reducible apply lenIs_mk; first | rfl | (simp only [go_sem])) | omega) [go_sem, -getElem?_pos, -List.length_flatMap, hx, Ref.names, hnext, hq]
end Sh
