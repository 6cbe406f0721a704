/-
Text: numbers, lists of names.
-/
import Derived.Test.YtkccojijhaajmaaGreatDoorTB4
set_option linter.unusedSimpArgs false
set_option linter.unusedVariables false
set_option linter.unusedSectionVars false
set_option maxRecDepth 100000
set_option maxHeartbeats 4000000
set_option linter.unusedSimpArgs false
set_option linter.unusedVariables false
namespace Sh
open Go Go.Proofs

theorem digs_len : ∀ (n : Nat) (acc : List UInt8) (k : Nat), n < 10 ^ k → (digs n acc).length ≤ acc.length + max k 1 := by
  intro n
  induction n using Nat.strongRecOn with
  | _ n ih =>
    intro acc k hk
    rw [digs]
    split
    · simp; omega
    · rename_i h
      cases k with
      | zero => simp at hk; omega
      | succ k =>
        have h2 : n / 10 < 10 ^ k := by rw [Nat.pow_succ] at hk; omega
        have := ih (n / 10) (by omega) (dig (n % 10) :: acc) k h2
        have hk0 : k ≠ 0 := by
          rintro rfl
          simp at h2; omega
        simp only [List.length_cons] at this
        omega
theorem itoa_len {n : Int} (h : -9223372036854775808 ≤ n ∧ n ≤ 9223372036854775807) : (itoa n).length ≤ 20 := by
  have := digs_len n.natAbs [] 19 (by omega)
  unfold itoa
  split <;> simp at this ⊢ <;> omega

theorem dig_int (m : Nat) : ((dig (m % 10)).toNat : Int) = 48 + (m : Int) % 10 := by
  have : m % 10 < 10 := Nat.mod_lt _ (by omega)
  simp [dig]; try omega
theorem dig_of (m : Nat) : UInt8.ofNat (48 + (m : Int) % 10).toNat = dig (m % 10) := by
  unfold dig; congr 1 <;> omega
theorem digs_lt {m : Nat} (acc : List UInt8) (h : m / 10 = 0) : digs m acc = dig (m % 10) :: acc := by
  rw [digs, dif_pos (by omega), Nat.mod_eq_of_lt (by omega)]
theorem digs_ge {m : Nat} (acc : List UInt8) (h : ¬ m / 10 = 0) : digs m acc = digs (m / 10) (dig (m % 10) :: acc) := by
  rw [digs, dif_neg (by omega)]

theorem digits_nn (m : Nat) (h : m ≤ 9223372036854775807) : acall cx 55 [.int .i64 m] [] = some (.str (digs m []), []) := by
  rw [acall_of rfl Tryz.func55 rfl]
  conv => lhs; simp -dsimp -implicitDefEqProofs +decide (maxSteps := 1000000) (disch := first | (with_reducible apply regOK_mk; kernel_rfl) | (with_reducible apply lenIs_mk; first | rfl | (simp only [go_sem])) | omega) [go_sem, -getElem?_pos, -List.length_flatMap]
  rw [lpc_eq]
  by_cases h0 : m / 10 = 0
  · rw [digs_lt [] h0]
    have h0' : (m : Int) / 10 = 0 := by omega
    simp -dsimp -implicitDefEqProofs +decide (maxSteps := 1000000) (disch := first | (with_reducible apply regOK_mk; kernel_rfl) | (with_reducible apply lenIs_mk; first | rfl | (simp only [go_sem])) | omega) [go_sem, -getElem?_pos, -List.length_flatMap, h0', dig_of]
  · rw [digs_ge [] h0]
    have h0' : ¬ (m : Int) / 10 = 0 := by omega
    have hdi := dig_int m
    conv => lhs; simp -dsimp -implicitDefEqProofs +decide (maxSteps := 1000000) (disch := first | (with_reducible apply regOK_mk; kernel_rfl) | (with_reducible apply lenIs_mk; first | rfl | (simp only [go_sem])) | omega) [go_sem, -getElem?_pos, -List.length_flatMap, h0', ← hdi]
    refine Eq.trans (loop_ind (σ := Nat × List UInt8 × Option Nat × Bool) (fun s => s.1) (fun s => ([(0, .int .i64 s.1), (3, .lsl 0 0 s.2.1.length s.2.2.1 1), (4, .bool false)], [some ⟨s.2.1.map u8, s.2.2.2, true, none⟩]))
      (fun s => s.1 ≤ 9223372036854775807 ∧ s.1 < 10 ^ (20 - s.2.1.length) ∧ s.2.1.length ≤ 20 ∧ 0 < s.1 ∧ 0 < s.2.1.length) (fun s => some (.str (digs s.1 s.2.1), [])) ?_ (m / 10, [dig (m % 10)], some 1, false) ⟨by omega, by simp; omega, by simp, by omega, by simp⟩) rfl
    rintro ⟨k, acc, cap, op⟩ ⟨hk, hka, hac, hk0, hap⟩ hnext
    dsimp only at hk hka hac hk0 hap ⊢
    have hac' : acc.length < 20 := by
      rcases Nat.lt_or_ge acc.length 20 with h | h
      · exact h
      · have : 20 - acc.length = 0 := by omega
        rw [this] at hka; simp at hka; omega
    have hka' : k / 10 < 10 ^ (20 - (acc.length + 1)) := by
      have : 20 - acc.length = (20 - (acc.length + 1)) + 1 := by omega
      rw [this, Nat.pow_succ] at hka; omega
    rw [lpc_eq]
    have hdi := dig_int k
    have hcm : 1 + acc.length = acc.length + 1 := by omega
    have hne : ¬ acc = [] := by rintro rfl; simp at hap
    by_cases h1 : k / 10 = 0
    · rw [digs_lt acc h1]
      have h1' : (k : Int) / 10 = 0 := by omega
      simp -dsimp -implicitDefEqProofs +decide (maxSteps := 1000000) (disch := first | (with_reducible apply regOK_mk; kernel_rfl) | (with_reducible apply lenIs_mk; first | rfl | (simp only [go_sem])) | omega) [go_sem, -getElem?_pos, -List.length_flatMap, h1', dig_of, hcm, hne]
    · rw [digs_ge acc h1]
      have h1' : ¬ (k : Int) / 10 = 0 := by omega
      have hnext := hnext (k / 10, dig (k % 10) :: acc, none, true) ⟨by show k / 10 ≤ _; omega, by simpa using hka', by show acc.length + 1 ≤ 20; omega, by show 0 < k / 10; omega, by simp⟩ (by show k / 10 < k; omega)
      simp -dsimp -implicitDefEqProofs +decide (maxSteps := 1000000) (disch := first | (with_reducible apply regOK_mk; kernel_rfl) | (with_reducible apply lenIs_mk; first | rfl | (simp only [go_sem])) | omega) [go_sem, -getElem?_pos, -List.length_flatMap, u8] at hnext
      simp -dsimp -implicitDefEqProofs +decide (maxSteps := 1000000) (disch := first | (with_reducible apply regOK_mk; kernel_rfl) | (with_reducible apply lenIs_mk; first | rfl | (simp only [go_sem])) | omega) [go_sem, -getElem?_pos, -List.length_flatMap, h1', ← hdi, hcm, hne, hnext]

theorem digits_neg (m : Nat) (h : 0 < m ∧ m ≤ 9223372036854775808) : acall cx 55 [.int .i64 (-(m : Int))] [] = some (.str (45 :: digs m []), []) := by
  have ht : ∀ v : Nat, (-(v : Int)).tdiv 10 = -((v : Int) / 10) := fun v => by rw [Int.neg_tdiv, Int.tdiv_eq_ediv_of_nonneg (by omega)]
  have hm : ∀ v : Nat, (-(v : Int)).tmod 10 = -((v : Int) % 10) := fun v => by rw [Int.neg_tmod, Int.tmod_eq_emod_of_nonneg (by omega)]
  have hz : ∀ v : Nat, IntKind.i64.wrap (0 - -((v : Int) % 10)) = (v : Int) % 10 := fun v => by
    rw [wrap_i64 (by omega)]; omega
  have hd48 : ∀ v : Nat, (v : Int) % 10 = 0 → dig (v % 10) = 48 := fun v hv => by
    have : v % 10 = 0 := by omega
    rw [this]; rfl
  rw [acall_of rfl Tryz.func55 rfl]
  conv => lhs; simp -dsimp -implicitDefEqProofs +decide (maxSteps := 1000000) (disch := first | (with_reducible apply regOK_mk; kernel_rfl) | (with_reducible apply lenIs_mk; first | rfl | (simp only [go_sem])) | omega) [go_sem, -getElem?_pos, -List.length_flatMap]
  rw [lpc_eq]
  have hdi := dig_int m
  by_cases h0 : m / 10 = 0
  · rw [digs_lt [] h0]
    have h0' : (m : Int) / 10 = 0 := by omega
    have hd0 : ¬ (m : Int) % 10 = 0 := by omega
    have h7 := hz m
    simp -dsimp -implicitDefEqProofs +decide (maxSteps := 1000000) (disch := first | (with_reducible apply regOK_mk; kernel_rfl) | (with_reducible apply lenIs_mk; first | rfl | (simp only [go_sem])) | omega) [go_sem, -getElem?_pos, -List.length_flatMap, h0', ht, hm, h7, dig_of]
  · rw [digs_ge [] h0]
    have h0' : ¬ (m : Int) / 10 = 0 := by omega
    have fin : ∀ (c K u v) (cap : Option Nat) (op : Bool), (∀ (k : Nat) (acc : List UInt8) (cap : Option Nat) (op : Bool), k ≤ 9223372036854775808 → k < 10 ^ (20 - acc.length) → acc.length ≤ 20 → 0 < k → 0 < acc.length →
        (∀ cap op, k / 10 ≠ 0 → lpc cx 55 0 0 c ([(0, .int .i64 (-((k / 10 : Nat) : Int))), (3, .lsl 0 0 (acc.length + 1) cap 1), (4, .bool true)], [some ⟨(dig (k % 10) :: acc).map u8, op, true, none⟩]) K u v = some (.str (45 :: digs (k / 10) (dig (k % 10) :: acc)), [])) →
        lpc cx 55 0 0 c ([(0, .int .i64 (-(k : Int))), (3, .lsl 0 0 acc.length cap 1), (4, .bool true)], [some ⟨acc.map u8, op, true, none⟩]) K u v = some (.str (45 :: digs k acc), [])) →
        lpc cx 55 0 0 c ([(0, .int .i64 (-((m / 10 : Nat) : Int))), (3, .lsl 0 0 1 cap 1), (4, .bool true)], [some ⟨[u8 (dig (m % 10))], op, true, none⟩]) K u v = some (.str (45 :: digs (m / 10) [dig (m % 10)]), []) := by
      intro c K u v cap op step
      exact loop_ind (σ := Nat × List UInt8 × Option Nat × Bool) (fun s => s.1) (fun s => ([(0, .int .i64 (-(s.1 : Int))), (3, .lsl 0 0 s.2.1.length s.2.2.1 1), (4, .bool true)], [some ⟨s.2.1.map u8, s.2.2.2, true, none⟩]))
        (fun s => s.1 ≤ 9223372036854775808 ∧ s.1 < 10 ^ (20 - s.2.1.length) ∧ s.2.1.length ≤ 20 ∧ 0 < s.1 ∧ 0 < s.2.1.length) (fun s => some (.str (45 :: digs s.1 s.2.1), []))
        (fun ⟨k, acc, cap, op⟩ ⟨hk, hka, hac, hk0, hap⟩ hnext => step k acc cap op hk hka hac hk0 hap fun cap op h1 => by
          have hk0 : 0 < k := hk0
          have hac' : acc.length < 20 := by
            rcases Nat.lt_or_ge acc.length 20 with h | h
            · exact h
            · have : 20 - acc.length = 0 := by omega
              simp only [this] at hka; simp at hka; omega
          have hka' : k / 10 < 10 ^ (20 - (acc.length + 1)) := by
            have : 20 - acc.length = (20 - (acc.length + 1)) + 1 := by omega
            simp only [this, Nat.pow_succ] at hka; omega
          exact hnext (k / 10, dig (k % 10) :: acc, cap, op) ⟨by show k / 10 ≤ _; simp only at hk; omega, by simpa using hka', by show acc.length + 1 ≤ 20; omega, by show 0 < k / 10; omega, by simp⟩ (by show k / 10 < k; omega))
        (m / 10, [dig (m % 10)], cap, op) ⟨by show m / 10 ≤ _; omega, by simp; omega, by simp, by show 0 < m / 10; omega, by simp⟩
    have step : ∀ (k : Nat) (acc : List UInt8), k ≤ 9223372036854775808 → acc.length ≤ 20 → 0 < k → 0 < acc.length → True := fun _ _ _ _ _ _ => trivial
    by_cases hd0 : (m : Int) % 10 = 0
    · have h7 := hz m
      have h8 := hd48 m
      conv => lhs; simp -dsimp -implicitDefEqProofs +decide (maxSteps := 1000000) (disch := first | (with_reducible apply regOK_mk; kernel_rfl) | (with_reducible apply lenIs_mk; first | rfl | (simp only [go_sem])) | omega) [go_sem, -getElem?_pos, -List.length_flatMap, h0', ht, hm, hd0, h7, ← hdi]
      have e1 : (-((m : Int) / 10)) = -((m / 10 : Nat) : Int) := by omega
      rw [e1]
      first
        | (rw [show (AV.int .u8 48 : AV) = u8 (dig (m % 10)) by rw [h8 hd0]; rfl]; refine fin _ _ _ _ (some 1) false ?_)
        | refine fin _ _ _ _ (some 1) false ?_
      · intro k acc cap op hk hka hac hk0 hap hnext
        have hcm : 1 + acc.length = acc.length + 1 := by omega
        have hne : ¬ acc = [] := by rintro rfl; simp at hap
        have hdk := dig_int k
        have g7 := hz k
        have g8 := hd48 k
        rw [lpc_eq]
        by_cases h1 : k / 10 = 0
        · rw [digs_lt acc h1]
          have h1' : (k : Int) / 10 = 0 := by omega
          have g0 : ¬ (k : Int) % 10 = 0 := by omega
          simp -dsimp -implicitDefEqProofs +decide (maxSteps := 1000000) (disch := first | (with_reducible apply regOK_mk; kernel_rfl) | (with_reducible apply lenIs_mk; first | rfl | (simp only [go_sem])) | omega) [go_sem, -getElem?_pos, -List.length_flatMap, h1', ht, hm, g7, dig_of, hcm, hne]
        · rw [digs_ge acc h1]
          have h1' : ¬ (k : Int) / 10 = 0 := by omega
          have hnext := hnext none true h1
          by_cases g0 : (k : Int) % 10 = 0
          · have g9 := g8 g0
            rw [g9] at hnext ⊢
            simp -dsimp -implicitDefEqProofs +decide (maxSteps := 1000000) (disch := first | (with_reducible apply regOK_mk; kernel_rfl) | (with_reducible apply lenIs_mk; first | rfl | (simp only [go_sem])) | omega) [go_sem, -getElem?_pos, -List.length_flatMap, u8] at hnext
            simp -dsimp -implicitDefEqProofs +decide (maxSteps := 1000000) (disch := first | (with_reducible apply regOK_mk; kernel_rfl) | (with_reducible apply lenIs_mk; first | rfl | (simp only [go_sem])) | omega) [go_sem, -getElem?_pos, -List.length_flatMap, h1', ht, hm, g0, hcm, hne, hnext]
          · simp -dsimp -implicitDefEqProofs +decide (maxSteps := 1000000) (disch := first | (with_reducible apply regOK_mk; kernel_rfl) | (with_reducible apply lenIs_mk; first | rfl | (simp only [go_sem])) | omega) [go_sem, -getElem?_pos, -List.length_flatMap, u8] at hnext
            simp -dsimp -implicitDefEqProofs +decide (maxSteps := 1000000) (disch := first | (with_reducible apply regOK_mk; kernel_rfl) | (with_reducible apply lenIs_mk; first | rfl | (simp only [go_sem])) | omega) [go_sem, -getElem?_pos, -List.length_flatMap, h1', ht, hm, g7, ← hdk, hcm, hne, hnext]
    · have h7 := hz m
      have h8 := hd48 m
      conv => lhs; simp -dsimp -implicitDefEqProofs +decide (maxSteps := 1000000) (disch := first | (with_reducible apply regOK_mk; kernel_rfl) | (with_reducible apply lenIs_mk; first | rfl | (simp only [go_sem])) | omega) [go_sem, -getElem?_pos, -List.length_flatMap, h0', ht, hm, hd0, h7, ← hdi]
      have e1 : (-((m : Int) / 10)) = -((m / 10 : Nat) : Int) := by omega
      rw [e1]
      first
        | (rw [show (AV.int .u8 48 : AV) = u8 (dig (m % 10)) by rw [h8 hd0]; rfl]; refine fin _ _ _ _ (some 1) false ?_)
        | refine fin _ _ _ _ (some 1) false ?_
      · intro k acc cap op hk hka hac hk0 hap hnext
        have hcm : 1 + acc.length = acc.length + 1 := by omega
        have hne : ¬ acc = [] := by rintro rfl; simp at hap
        have hdk := dig_int k
        have g7 := hz k
        have g8 := hd48 k
        rw [lpc_eq]
        by_cases h1 : k / 10 = 0
        · rw [digs_lt acc h1]
          have h1' : (k : Int) / 10 = 0 := by omega
          have g0 : ¬ (k : Int) % 10 = 0 := by omega
          simp -dsimp -implicitDefEqProofs +decide (maxSteps := 1000000) (disch := first | (with_reducible apply regOK_mk; kernel_rfl) | (with_reducible apply lenIs_mk; first | rfl | (simp only [go_sem])) | omega) [go_sem, -getElem?_pos, -List.length_flatMap, h1', ht, hm, g7, dig_of, hcm, hne]
        · rw [digs_ge acc h1]
          have h1' : ¬ (k : Int) / 10 = 0 := by omega
          have hnext := hnext none true h1
          by_cases g0 : (k : Int) % 10 = 0
          · have g9 := g8 g0
            rw [g9] at hnext ⊢
            simp -dsimp -implicitDefEqProofs +decide (maxSteps := 1000000) (disch := first | (with_reducible apply regOK_mk; kernel_rfl) | (with_reducible apply lenIs_mk; first | rfl | (simp only [go_sem])) | omega) [go_sem, -getElem?_pos, -List.length_flatMap, u8] at hnext
            simp -dsimp -implicitDefEqProofs +decide (maxSteps := 1000000) (disch := first | (with_reducible apply regOK_mk; kernel_rfl) | (with_reducible apply lenIs_mk; first | rfl | (simp only [go_sem])) | omega) [go_sem, -getElem?_pos, -List.length_flatMap, h1', ht, hm, g0, hcm, hne, hnext]
          · simp -dsimp -implicitDefEqProofs +decide (maxSteps := 1000000) (disch := first | (with_reducible apply regOK_mk; kernel_rfl) | (with_reducible apply lenIs_mk; first | rfl | (simp only [go_sem])) | omega) [go_sem, -getElem?_pos, -List.length_flatMap, u8] at hnext
            simp -dsimp -implicitDefEqProofs +decide (maxSteps := 1000000) (disch := first | (with_reducible apply regOK_mk; kernel_rfl) | (with_reducible apply lenIs_mk; first | rfl | (simp only [go_sem])) | omega) [go_sem, -getElem?_pos, -List.length_flatMap, h1', ht, hm, g7, ← hdk, hcm, hne, hnext]

theorem digits_spec (n : Int) (h : -9223372036854775808 ≤ n ∧ n ≤ 9223372036854775807) : acall cx 55 [.int .i64 n] [] = some (.str (itoa n), []) := by
  by_cases hn : n < 0
  · have := digits_neg n.natAbs ⟨by omega, by omega⟩
    rw [itoa, if_pos hn, ← this]
    congr 3; omega
  · have := digits_nn n.natAbs (by omega)
    rw [itoa, if_neg hn, ← this]
    congr 3; omega
end Sh
