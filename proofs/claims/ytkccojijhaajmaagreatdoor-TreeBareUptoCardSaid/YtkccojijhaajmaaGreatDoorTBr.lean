/-
What the law's row reads is a source.
-/
import Derived.Test.YtkccojijhaajmaaGreatDoorTBl
import Derived.Test.YtkccojijhaajmaaGreatDoorShGot
set_option linter.unusedSimpArgs false
set_option linter.unusedVariables false
set_option linter.unusedSectionVars false
set_option maxRecDepth 1000000
set_option linter.unusedSimpArgs false
set_option linter.unusedVariables false
namespace Sh
open Go Go.Proofs
theorem fo_44 : fieldsOf Tryz.prog 44 = some [(9, 0), (3, 1)] := by kernel_rfl
theorem fo_47 : fieldsOf Tryz.prog 47 = some [(9, 0), (3, 1), (9, 2), (3, 3), (45, 4)] := by kernel_rfl
theorem fo_69 : fieldsOf Tryz.prog 69 = some [(44, 0), (47, 2), (47, 7)] := by kernel_rfl
theorem fo_62 : fieldsOf Tryz.prog 62 = some [(9, 0), (44, 1), (47, 3), (60, 8)] := by kernel_rfl
theorem fo_50 : fieldsOf Tryz.prog 50 = some [(9, 0), (3, 1), (44, 2), (47, 4), (47, 9), (47, 14), (48, 19), (44, 20), (44, 22), (24, 24), (24, 25)] := by kernel_rfl
theorem fo_26 : fieldsOf Tryz.prog 26 = some [(23, 0), (24, 1)] := by kernel_rfl
theorem co_3 : Tryz.prog.cellsOf 3 = 1 := by kernel_rfl
theorem co_9 : Tryz.prog.cellsOf 9 = 1 := by kernel_rfl
theorem co_44 : Tryz.prog.cellsOf 44 = 2 := by kernel_rfl
theorem co_47 : Tryz.prog.cellsOf 47 = 5 := by kernel_rfl
theorem co_69 : Tryz.prog.cellsOf 69 = 12 := by kernel_rfl
theorem co_62 : Tryz.prog.cellsOf 62 = 9 := by kernel_rfl
theorem co_50 : Tryz.prog.cellsOf 50 = 26 := by kernel_rfl
theorem co_26 : Tryz.prog.cellsOf 26 = 2 := by kernel_rfl
theorem co_45 : Tryz.prog.cellsOf 45 = 1 := by kernel_rfl
theorem co_48 : Tryz.prog.cellsOf 48 = 1 := by kernel_rfl
theorem co_60 : Tryz.prog.cellsOf 60 = 1 := by kernel_rfl
theorem co_24 : Tryz.prog.cellsOf 24 = 1 := by kernel_rfl
theorem co_23 : Tryz.prog.cellsOf 23 = 1 := by kernel_rfl
theorem us_45 : Tryz.prog.underlying 45 = some (.slice 47) := by kernel_rfl
theorem us_48 : Tryz.prog.underlying 48 = some (.slice 44) := by kernel_rfl
theorem us_60 : Tryz.prog.underlying 60 = some (.slice 69) := by kernel_rfl
theorem us_24 : Tryz.prog.underlying 24 = some (.slice 50) := by kernel_rfl
theorem us_23 : Tryz.prog.underlying 23 = some (.slice 62) := by kernel_rfl
theorem ui_3 : Tryz.prog.underlying 3 = some (.int .i64) := by kernel_rfl
theorem ui_9 : Tryz.prog.underlying 9 = some .string := by kernel_rfl

section
variable {H : Type} {enc : TypeId × Value → H} {w : World} {base : Nat} {sp : Nat → Bool} {held : Bool}

theorem got_num {n : Nat} {cs : List Value} {d : DataW H} {ps} (h : DataW.trod enc Tryz.prog w base sp held n 3 cs = some (d, ps)) : ∃ v, avc Tryz.prog n 3 d = some [.int .i64 v] ∧ InR v ∧ bulkD d = 1 := by
  obtain ⟨v, h1, h2, h3, h4⟩ := got_int ui_3 h
  exact ⟨v, h1, ⟨h2, h3⟩, h4⟩

theorem rd_ref (n : Nat) (cs : List Value) (d : DataW H) (ps) (h : DataW.trod enc Tryz.prog w base sp held n 44 cs = some (d, ps)) : ∃ x : Ref, avc Tryz.prog n 44 d = some x.cells ∧ True ∧ x.bulk ≤ bulkD d := by
  cases n with
  | zero => simp [DataW.trod] at h
  | succ n =>
    obtain ⟨ds, rfl, hE⟩ := got_struct fo_44 h
    obtain ⟨d1, r1, rfl, ⟨_, _, t1⟩, hE⟩ := each_cons hE
    obtain ⟨d2, r2, rfl, ⟨_, _, t2⟩, hE⟩ := each_cons hE
    obtain rfl := each_nil hE
    obtain ⟨s1, a1, b1⟩ := got_str ui_9 t1
    obtain ⟨s2, a2, i2, b2⟩ := got_num t2
    refine ⟨⟨s1, s2⟩, ?_, trivial, ?_⟩
    · rw [avc_struct fo_44]
      simp [avcl, a1, a2, co_9, co_3, co_44, Ref.cells]
    · simp only [Ref.bulk, bulkD, bulkA]; omega

theorem Ex.fitsL_of : ∀ {l : List Ex}, (∀ x ∈ l, x.fits) → Ex.fitsL l
  | [], _ => trivial
  | e :: r, h => ⟨h e List.mem_cons_self, Ex.fitsL_of fun x hx => h x (List.mem_cons_of_mem _ hx)⟩
theorem Stmt.fitsL_of : ∀ {l : List Stmt}, (∀ x ∈ l, x.fits) → Stmt.fitsL l
  | [], _ => trivial
  | e :: r, h => ⟨h e List.mem_cons_self, Stmt.fitsL_of fun x hx => h x (List.mem_cons_of_mem _ hx)⟩

theorem rd_ex : ∀ (n : Nat) (cs : List Value) (d : DataW H) (ps), DataW.trod enc Tryz.prog w base sp held n 47 cs = some (d, ps) → ∃ x : Ex, avc Tryz.prog n 47 d = some x.cells ∧ x.fits ∧ x.bulk ≤ bulkD d := by
  intro n
  induction n using Nat.strongRecOn with
  | ind n ih =>
    intro cs d ps h
    cases n with
    | zero => simp [DataW.trod] at h
    | succ n =>
      obtain ⟨ds, rfl, hE⟩ := got_struct fo_47 h
      obtain ⟨d1, r1, rfl, ⟨_, _, t1⟩, hE⟩ := each_cons hE
      obtain ⟨d2, r2, rfl, ⟨_, _, t2⟩, hE⟩ := each_cons hE
      obtain ⟨d3, r3, rfl, ⟨_, _, t3⟩, hE⟩ := each_cons hE
      obtain ⟨d4, r4, rfl, ⟨_, _, t4⟩, hE⟩ := each_cons hE
      obtain ⟨d5, r5, rfl, ⟨_, _, t5⟩, hE⟩ := each_cons hE
      obtain rfl := each_nil hE
      obtain ⟨s1, a1, b1⟩ := got_str ui_9 t1
      obtain ⟨s2, a2, i2, b2⟩ := got_num t2
      obtain ⟨s3, a3, b3⟩ := got_str ui_9 t3
      obtain ⟨s4, a4, i4, b4⟩ := got_num t4
      obtain ⟨l, a5, q5, b5⟩ := got_slice (av := Ex.av) (fun _ => rfl) (cells := Ex.cells) (BL := Ex.bulkL) us_45 co_47 (by decide) Ex.cells_len rfl (fun _ _ => rfl) (fun m cs d ps hm => ih m (by omega) cs d ps) t5
      refine ⟨.mk s1 s2 s3 s4 l, ?_, ?_, ?_⟩
      · rw [avc_struct fo_47, Ex.cells_eq]
        simp [avcl, a1, a2, a3, a4, a5, co_9, co_3, co_45, co_47, Ex.op, Ex.num, Ex.text, Ex.pos, Ex.args]
      · rw [Ex.fits_eq]; exact ⟨i2, Ex.fitsL_of q5⟩
      · simp only [Ex.bulk, bulkD, bulkA] at *; omega

theorem rd_place (n : Nat) (cs : List Value) (d : DataW H) (ps) (h : DataW.trod enc Tryz.prog w base sp held n 69 cs = some (d, ps)) : ∃ x : Place, avc Tryz.prog n 69 d = some x.cells ∧ x.fits ∧ x.bulk ≤ bulkD d := by
  cases n with
  | zero => simp [DataW.trod] at h
  | succ n =>
    obtain ⟨ds, rfl, hE⟩ := got_struct fo_69 h
    obtain ⟨d1, r1, rfl, ⟨_, _, t1⟩, hE⟩ := each_cons hE
    obtain ⟨d2, r2, rfl, ⟨_, _, t2⟩, hE⟩ := each_cons hE
    obtain ⟨d3, r3, rfl, ⟨_, _, t3⟩, hE⟩ := each_cons hE
    obtain rfl := each_nil hE
    obtain ⟨x1, a1, _, b1⟩ := rd_ref _ _ _ _ t1
    obtain ⟨x2, a2, q2, b2⟩ := rd_ex _ _ _ _ t2
    obtain ⟨x3, a3, q3, b3⟩ := rd_ex _ _ _ _ t3
    refine ⟨⟨x1, x2, x3⟩, ?_, ⟨q2, q3⟩, ?_⟩
    · rw [avc_struct fo_69]
      simp [avcl, a1, a2, a3, co_44, co_47, co_69, Ref.cells_len, Ex.cells_len]
      simp [Place.cells_eq, Ref.cells_eq, Ex.cells_eq]
    · simp only [Place.bulk, bulkD, bulkA]; omega

theorem rd_decl (n : Nat) (cs : List Value) (d : DataW H) (ps) (h : DataW.trod enc Tryz.prog w base sp held n 62 cs = some (d, ps)) : ∃ x : Decl, avc Tryz.prog n 62 d = some x.cells ∧ x.fits ∧ x.bulk ≤ bulkD d := by
  cases n with
  | zero => simp [DataW.trod] at h
  | succ n =>
    obtain ⟨ds, rfl, hE⟩ := got_struct fo_62 h
    obtain ⟨d1, r1, rfl, ⟨_, _, t1⟩, hE⟩ := each_cons hE
    obtain ⟨d2, r2, rfl, ⟨_, _, t2⟩, hE⟩ := each_cons hE
    obtain ⟨d3, r3, rfl, ⟨_, _, t3⟩, hE⟩ := each_cons hE
    obtain ⟨d4, r4, rfl, ⟨_, _, t4⟩, hE⟩ := each_cons hE
    obtain rfl := each_nil hE
    obtain ⟨s1, a1, b1⟩ := got_str ui_9 t1
    obtain ⟨x2, a2, _, b2⟩ := rd_ref _ _ _ _ t2
    obtain ⟨x3, a3, q3, b3⟩ := rd_ex _ _ _ _ t3
    obtain ⟨l, a4, q4, b4⟩ := got_slice (av := Place.av) (fun _ => rfl) (cells := Place.cells) (BL := Place.bulkL) us_60 co_69 (by decide) Place.cells_len rfl (fun _ _ => rfl) (fun m cs d ps hm => rd_place m cs d ps) t4
    refine ⟨⟨s1, x2, x3, l⟩, ?_, ⟨q3, q4⟩, ?_⟩
    · rw [avc_struct fo_62]
      simp [avcl, a1, a2, a3, a4, co_9, co_44, co_47, co_60, co_62, Ref.cells_len, Ex.cells_len]
      simp [Decl.cells_eq, Ref.cells_eq, Ex.cells_eq]
    · simp only [Decl.bulk, bulkD, bulkA]; omega

theorem rd_stmt : ∀ (n : Nat) (cs : List Value) (d : DataW H) (ps), DataW.trod enc Tryz.prog w base sp held n 50 cs = some (d, ps) → ∃ x : Stmt, avc Tryz.prog n 50 d = some x.cells ∧ x.fits ∧ x.bulk ≤ bulkD d := by
  intro n
  induction n using Nat.strongRecOn with
  | ind n ih =>
    intro cs d ps h
    cases n with
    | zero => simp [DataW.trod] at h
    | succ n =>
      obtain ⟨ds, rfl, hE⟩ := got_struct fo_50 h
      obtain ⟨d1, r1, rfl, ⟨_, _, t1⟩, hE⟩ := each_cons hE
      obtain ⟨d2, r2, rfl, ⟨_, _, t2⟩, hE⟩ := each_cons hE
      obtain ⟨d3, r3, rfl, ⟨_, _, t3⟩, hE⟩ := each_cons hE
      obtain ⟨d4, r4, rfl, ⟨_, _, t4⟩, hE⟩ := each_cons hE
      obtain ⟨d5, r5, rfl, ⟨_, _, t5⟩, hE⟩ := each_cons hE
      obtain ⟨d6, r6, rfl, ⟨_, _, t6⟩, hE⟩ := each_cons hE
      obtain ⟨d7, r7, rfl, ⟨_, _, t7⟩, hE⟩ := each_cons hE
      obtain ⟨d8, r8, rfl, ⟨_, _, t8⟩, hE⟩ := each_cons hE
      obtain ⟨d9, r9, rfl, ⟨_, _, t9⟩, hE⟩ := each_cons hE
      obtain ⟨d10, r10, rfl, ⟨_, _, t10⟩, hE⟩ := each_cons hE
      obtain ⟨d11, r11, rfl, ⟨_, _, t11⟩, hE⟩ := each_cons hE
      obtain rfl := each_nil hE
      obtain ⟨s1, a1, b1⟩ := got_str ui_9 t1
      obtain ⟨s2, a2, i2, b2⟩ := got_num t2
      obtain ⟨x3, a3, _, b3⟩ := rd_ref _ _ _ _ t3
      obtain ⟨x4, a4, q4, b4⟩ := rd_ex _ _ _ _ t4
      obtain ⟨x5, a5, q5, b5⟩ := rd_ex _ _ _ _ t5
      obtain ⟨x6, a6, q6, b6⟩ := rd_ex _ _ _ _ t6
      obtain ⟨x7, a7, q7, b7⟩ := got_slice (av := Ref.av) (fun _ => rfl) (cells := Ref.cells) (BL := Ref.bulkL) us_48 co_44 (by decide) Ref.cells_len rfl (fun _ _ => rfl) (fun m cs d ps hm => rd_ref m cs d ps) t7
      obtain ⟨x8, a8, _, b8⟩ := rd_ref _ _ _ _ t8
      obtain ⟨x9, a9, _, b9⟩ := rd_ref _ _ _ _ t9
      obtain ⟨x10, a10, q10, b10⟩ := got_slice (av := Stmt.av) (fun _ => rfl) (cells := Stmt.cells) (BL := Stmt.bulkL) us_24 co_50 (by decide) Stmt.cells_len rfl (fun _ _ => rfl) (fun m cs d ps hm => ih m (by omega) cs d ps) t10
      obtain ⟨x11, a11, q11, b11⟩ := got_slice (av := Stmt.av) (fun _ => rfl) (cells := Stmt.cells) (BL := Stmt.bulkL) us_24 co_50 (by decide) Stmt.cells_len rfl (fun _ _ => rfl) (fun m cs d ps hm => ih m (by omega) cs d ps) t11
      refine ⟨.mk s1 s2 x3 x4 x5 x6 x7 x8 x9 x10 x11, ?_, ?_, ?_⟩
      · rw [avc_struct fo_50]
        simp [avcl, a1, a2, a3, a4, a5, a6, a7, a8, a9, a10, a11, co_9, co_3, co_44, co_47, co_48, co_24, co_50, Ref.cells_len, Ex.cells_len]
        simp [Stmt.cells_eq, Ref.cells_eq, Ex.cells_eq, Stmt.kind, Stmt.pos, Stmt.name, Stmt.a, Stmt.b, Stmt.c, Stmt.routes, Stmt.block, Stmt.tag, Stmt.body, Stmt.els]
      · exact ⟨⟨q4, q5, q6⟩, Stmt.fitsL_of q10, Stmt.fitsL_of q11⟩
      · simp only [Stmt.bulk, bulkD, bulkA] at *; omega

theorem rd_source (n : Nat) (cs : List Value) (d : DataW H) (ps) (h : DataW.trod enc Tryz.prog w base sp held n 26 cs = some (d, ps)) : ∃ x : Source, avc Tryz.prog n 26 d = some x.cells ∧ x.fits ∧ x.bulk ≤ bulkD d := by
  cases n with
  | zero => simp [DataW.trod] at h
  | succ n =>
    obtain ⟨ds, rfl, hE⟩ := got_struct fo_26 h
    obtain ⟨d1, r1, rfl, ⟨_, _, t1⟩, hE⟩ := each_cons hE
    obtain ⟨d2, r2, rfl, ⟨_, _, t2⟩, hE⟩ := each_cons hE
    obtain rfl := each_nil hE
    obtain ⟨l1, a1, q1, b1⟩ := got_slice (av := Decl.av) (fun _ => rfl) (cells := Decl.cells) (BL := Decl.bulkL) us_23 co_62 (by decide) Decl.cells_len rfl (fun _ _ => rfl) (fun m cs d ps hm => rd_decl m cs d ps) t1
    obtain ⟨l2, a2, q2, b2⟩ := got_slice (av := Stmt.av) (fun _ => rfl) (cells := Stmt.cells) (BL := Stmt.bulkL) us_24 co_50 (by decide) Stmt.cells_len rfl (fun _ _ => rfl) (fun m cs d ps hm => rd_stmt m cs d ps) t2
    refine ⟨⟨l1, l2⟩, ?_, ⟨q1, Stmt.fitsL_of q2⟩, ?_⟩
    · rw [avc_struct fo_26]
      simp [avcl, a1, a2, co_23, co_24, co_26, Source.cells_eq]
    · simp only [Source.bulk, bulkD, bulkA]; omega
end
end Sh
