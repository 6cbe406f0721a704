/-
How long a printed source is.
-/
import Derived.Test.YtkccojijhaajmaaGreatDoorTB10
set_option linter.unusedSimpArgs false
set_option linter.unusedVariables false
set_option linter.unusedSectionVars false
set_option maxRecDepth 100000
set_option linter.unusedSimpArgs false
set_option linter.unusedVariables false
namespace Sh
open Go
theorem Ex.bulk_pos (e : Ex) : 5 ≤ e.bulk := by rw [e.bulk_eq]; omega
theorem Ex.markT_len (m : UInt8) (e : Ex) (hf : e.fits) : (e.markT m).length ≤ 6 * e.bulk := by
  have h1 := Ex.pr_len _ e 0 (Nat.lt_succ_self _) hf
  have h2 := e.bulk_pos
  unfold Ex.markT Ex.atomT
  split
  · simp
  · split
    · simp only [List.length_cons]; omega
    · simp only [List.length_cons, List.length_append, List.length_nil]; omega
theorem Place.prt_len (p : Place) (hf : p.fits) : p.prt.length + 6 ≤ 6 * p.bulk := by
  have h1 := Ex.markT_len 64 p.delay hf.1
  have h2 := Ex.markT_len 33 p.flags hf.2
  simp only [Place.prt, Place.bulk, Ref.bulk, List.length_append]
  omega
theorem Place.prtsT_len : ∀ l : List Place, (∀ p ∈ l, p.fits) → (Place.prtsT l).length ≤ 6 * Place.bulkL l
  | [], _ => Nat.zero_le _
  | p :: l, h => by
    have h1 := Place.prtsT_len l fun q hq => h q (List.mem_cons_of_mem _ hq)
    have h2 := Place.prt_len p (h p List.mem_cons_self)
    simp only [Place.prtsT, Place.bulkL, List.length_append, List.length_cons, List.length_nil]
    omega
theorem Place.prts_len (l : List Place) (h : ∀ p ∈ l, p.fits) : (Place.prts l).length ≤ 6 * Place.bulkL l := by
  cases l with
  | nil => simp [Place.prts]
  | cons p l =>
    have h1 := Place.prtsT_len l fun q hq => h q (List.mem_cons_of_mem _ hq)
    have h2 := Place.prt_len p (h p List.mem_cons_self)
    simp only [Place.prts, Place.bulkL, List.length_append]
    omega
theorem Decl.prt_len (d : Decl) (hf : d.fits) : d.prt.length ≤ 6 * d.bulk := by
  have h1 := Ex.pr_len _ d.value 0 (Nat.lt_succ_self _) hf.1
  have h2 := Place.prts_len d.places hf.2
  have h3 := d.value.bulk_pos
  have h4 : d.name.bulk = d.name.name.length + 2 := rfl
  unfold Decl.prt Decl.bulk
  repeat' split
  all_goals simp only [List.length_append, List.length_cons, List.length_nil]
  all_goals omega
theorem Decl.prts_len : ∀ l : List Decl, (∀ d ∈ l, d.fits) → (Decl.prts l).length ≤ 6 * Decl.bulkL l
  | [], _ => Nat.zero_le _
  | d :: l, h => by
    have h1 := Decl.prts_len l fun q hq => h q (List.mem_cons_of_mem _ hq)
    have h2 := Decl.prt_len d (h d List.mem_cons_self)
    simp only [Decl.prts, Decl.bulkL, List.length_append]
    omega
mutual
theorem Stmt.prt_len (N : Nat) : ∀ (s : Stmt) (inn : List UInt8), s.fits → inn.length + s.bulk ≤ N → (s.prt inn).length ≤ s.bulk * (N + 10)
  | .mk kind pos name a b c routes block tag body els, inn, hf, hN => by
    have hl := Stmt.line_len (.mk kind pos name a b c routes block tag [] []) hf.1
    have ha := a.bulk_pos
    have hb := b.bulk_pos
    have hc := c.bulk_pos
    have h1 : 2 ≤ name.bulk := by simp [Ref.bulk]
    have h2 : 2 ≤ block.bulk := by simp [Ref.bulk]
    have h3 : 2 ≤ tag.bulk := by simp [Ref.bulk]
    have hB := Stmt.prts_len N body (inn ++ [32, 32]) hf.2.1 (by simp only [Stmt.bulk] at hN; simp only [List.length_append, List.length_cons, List.length_nil]; omega)
    have hE := Stmt.prts_len N els (inn ++ [32, 32]) hf.2.2 (by simp only [Stmt.bulk] at hN; simp only [List.length_append, List.length_cons, List.length_nil]; omega)
    obtain ⟨q, hq⟩ : ∃ q, q = kind.length + name.bulk + a.bulk + b.bulk + c.bulk + Ref.bulkL routes + block.bulk + tag.bulk + 1 := ⟨_, rfl⟩
    have e0 : (Stmt.mk kind pos name a b c routes block tag [] []).bulk = q := by simp only [Stmt.bulk, Stmt.bulkL]; omega
    have e1 : (Stmt.mk kind pos name a b c routes block tag body els).bulk = q + Stmt.bulkL body + Stmt.bulkL els := by simp only [Stmt.bulk]; omega
    rw [e0] at hl
    rw [e1] at hN ⊢
    have e2 : (q + Stmt.bulkL body + Stmt.bulkL els) * (N + 10) = q * N + q * 10 + Stmt.bulkL body * (N + 10) + Stmt.bulkL els * (N + 10) := by simp only [Nat.add_mul, Nat.mul_add]; omega
    have e3 : 20 * N ≤ q * N := Nat.mul_le_mul_right _ (by omega)
    rw [e2, Stmt.prt]
    split
    · split
      · simp only [List.length_append, List.length_cons, List.length_nil] at hB hE ⊢
        omega
      · simp only [List.length_append, List.length_cons, List.length_nil] at hB hE ⊢
        omega
    · simp only [List.length_append, List.length_cons, List.length_nil]
      omega
theorem Stmt.prts_len (N : Nat) : ∀ (l : List Stmt) (inn : List UInt8), Stmt.fitsL l → inn.length + Stmt.bulkL l ≤ N → (Stmt.prts l inn).length ≤ Stmt.bulkL l * (N + 10)
  | [], _, _, _ => Nat.zero_le _
  | s :: r, inn, hf, hN => by
    have h1 := Stmt.prt_len N s inn hf.1 (by simp only [Stmt.bulkL] at hN; omega)
    have h2 := Stmt.prts_len N r inn hf.2 (by simp only [Stmt.bulkL] at hN; omega)
    simp only [Stmt.prts, Stmt.bulkL, List.length_append, Nat.add_mul]
    omega
end
theorem Source.prt_len (s : Source) (hf : s.fits) (h : s.bulk ≤ 1073741824) : s.prt.length ≤ 4611686018427387904 := by
  have h1 := Decl.prts_len s.decls hf.1
  unfold Source.bulk at h
  have h2 := Stmt.prts_len 1073741824 s.body [] hf.2 (by simp only [List.length_nil]; omega)
  have h3 : Stmt.bulkL s.body * (1073741824 + 10) ≤ 1073741824 * (1073741824 + 10) := Nat.mul_le_mul_right _ (by omega)
  simp only [Source.prt, List.length_append]
  omega
end Sh
