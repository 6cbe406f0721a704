/-
What is bare: as much, without places, alike.
-/
import Derived.Test.YtkccojijhaajmaaGreatDoorTB0
set_option linter.unusedSimpArgs false
set_option linter.unusedVariables false
set_option linter.unusedSectionVars false
set_option linter.unusedSimpArgs false
namespace Sh
open Go
mutual
theorem Ex.bare_bulk : ∀ e : Ex, e.bare.bulk = e.bulk
  | .mk op n t a ds => by simp only [Ex.bare, Ex.bulk, Ex.bareL_bulk ds]
theorem Ex.bareL_bulk : ∀ l : List Ex, Ex.bulkL (Ex.bareL l) = Ex.bulkL l
  | [] => rfl
  | e :: r => by simp only [Ex.bareL, Ex.bulkL, Ex.bare_bulk e, Ex.bareL_bulk r]
end
theorem Ref.bare_bulk (r : Ref) : r.bare.bulk = r.bulk := rfl
theorem Ref.bareL_bulk : ∀ l : List Ref, Ref.bulkL (l.map Ref.bare) = Ref.bulkL l
  | [] => rfl
  | r :: l => by simp only [List.map_cons, Ref.bulkL, Ref.bare_bulk, Ref.bareL_bulk l]
theorem Place.bareL_bulk : ∀ l : List Place, Place.bulkL (l.map Place.bare) = Place.bulkL l
  | [] => rfl
  | p :: l => by simp only [List.map_cons, Place.bulkL, Place.bulk, Place.bare, Ref.bare_bulk, Ex.bare_bulk, Place.bareL_bulk l]
theorem Decl.bareL_bulk : ∀ l : List Decl, Decl.bulkL (l.map Decl.bare) = Decl.bulkL l
  | [] => rfl
  | p :: l => by simp only [List.map_cons, Decl.bulkL, Decl.bulk, Decl.bare, Ref.bare_bulk, Ex.bare_bulk, Place.bareL_bulk, Decl.bareL_bulk l]
mutual
theorem Stmt.bare_bulk : ∀ s : Stmt, s.bare.bulk = s.bulk
  | .mk kind pos name a b c routes block tag body els => by
    simp only [Stmt.bare, Stmt.bulk, Ref.bare_bulk, Ex.bare_bulk, Ref.bareL_bulk, Stmt.bareL_bulk body, Stmt.bareL_bulk els]
theorem Stmt.bareL_bulk : ∀ l : List Stmt, Stmt.bulkL (Stmt.bareL l) = Stmt.bulkL l
  | [] => rfl
  | e :: r => by simp only [Stmt.bareL, Stmt.bulkL, Stmt.bare_bulk e, Stmt.bareL_bulk r]
end
theorem Source.bare_bulk (s : Source) : s.bare.bulk = s.bulk := by
  simp only [Source.bulk, Source.bare, Decl.bareL_bulk, Stmt.bareL_bulk]

mutual
theorem Ex.bare_placed : ∀ e : Ex, e.bare.placed = false
  | .mk op n t a ds => by simp [Ex.bare, Ex.placed, Ex.bareL_placed ds]
theorem Ex.bareL_placed : ∀ l : List Ex, Ex.placedL (Ex.bareL l) = false
  | [] => rfl
  | e :: r => by simp [Ex.bareL, Ex.placedL, Ex.bare_placed e, Ex.bareL_placed r]
end
theorem Ref.bareL_placed : ∀ l : List Ref, Ref.placedL (l.map Ref.bare) = false
  | [] => rfl
  | r :: l => by simp [Ref.placedL, Ref.bare, Ref.bareL_placed l]
theorem Place.bareL_placed : ∀ l : List Place, Place.placedL (l.map Place.bare) = false
  | [] => rfl
  | p :: l => by simp [Place.placedL, Place.bare, Ref.bare, Ex.bare_placed, Place.bareL_placed l]
theorem Decl.bareL_placed : ∀ l : List Decl, Decl.placedL (l.map Decl.bare) = false
  | [] => rfl
  | p :: l => by simp [Decl.placedL, Decl.bare, Ref.bare, Ex.bare_placed, Place.bareL_placed, Decl.bareL_placed l]
mutual
theorem Stmt.bare_placed : ∀ s : Stmt, s.bare.placed = false
  | .mk kind pos name a b c routes block tag body els => by
    simp [Stmt.bare, Stmt.placed, Ref.bare, Ex.bare_placed, Ref.bareL_placed, Stmt.bareL_placed body, Stmt.bareL_placed els]
theorem Stmt.bareL_placed : ∀ l : List Stmt, Stmt.placedL (Stmt.bareL l) = false
  | [] => rfl
  | e :: r => by simp [Stmt.bareL, Stmt.placedL, Stmt.bare_placed e, Stmt.bareL_placed r]
end
theorem Source.bare_placed (s : Source) : s.bare.placed = false := by
  simp [Source.placed, Source.bare, Decl.bareL_placed, Stmt.bareL_placed]

theorem Ex.bareL_length : ∀ l : List Ex, (Ex.bareL l).length = l.length
  | [] => rfl
  | e :: r => by simp [Ex.bareL, Ex.bareL_length r]
theorem Stmt.bareL_length : ∀ l : List Stmt, (Stmt.bareL l).length = l.length
  | [] => rfl
  | e :: r => by simp [Stmt.bareL, Stmt.bareL_length r]
mutual
theorem Ex.bare_same : ∀ e : Ex, e.bare.same false e = true
  | .mk op n t a ds => by simp [Ex.bare, Ex.same, Ex.op, Ex.num, Ex.text, Ex.args, Ex.bareL_length, Ex.bareL_same ds]
theorem Ex.bareL_same : ∀ l : List Ex, Ex.sameL false (Ex.bareL l) l = true
  | [] => rfl
  | e :: r => by simp [Ex.bareL, Ex.sameL, Ex.bare_same e, Ex.bareL_same r]
end
theorem Ref.bare_same (r : Ref) : r.bare.same false r = true := by simp [Ref.same, Ref.bare]
theorem zip_all {α : Type} (f : α → α) (p : α → α → Bool) (h : ∀ a, p (f a) a = true) : ∀ l : List α, ((l.map f).zip l).all (fun q => p q.1 q.2) = true
  | [] => rfl
  | a :: l => by
    rw [List.map_cons, List.zip_cons_cons, List.all_cons, zip_all f p h l, Bool.and_true]
    exact h a
theorem Ref.bareL_same (l : List Ref) : Ref.sameL false (l.map Ref.bare) l = true := by
  unfold Ref.sameL
  rw [zip_all _ _ Ref.bare_same, List.length_map]
  simp
theorem Place.bare_same (p : Place) : p.bare.same false p = true := by simp [Place.same, Place.bare, Ref.bare_same, Ex.bare_same]
theorem Decl.bare_same (d : Decl) : d.bare.same false d = true := by
  unfold Decl.same Decl.bare
  simp only [Ref.bare_same, Ex.bare_same]
  rw [zip_all _ _ Place.bare_same, List.length_map]
  simp
mutual
theorem Stmt.bare_same : ∀ s : Stmt, s.bare.same false s = true
  | .mk kind pos name a b c routes block tag body els => by
    simp [Stmt.bare, Stmt.same, Stmt.kind, Stmt.pos, Stmt.name, Stmt.a, Stmt.b, Stmt.c, Stmt.routes, Stmt.block, Stmt.tag, Stmt.body, Stmt.els, Ref.bare_same, Ex.bare_same, Ref.bareL_same, Stmt.bareL_length, Stmt.bareL_same body, Stmt.bareL_same els]
theorem Stmt.bareL_same : ∀ l : List Stmt, Stmt.sameL false (Stmt.bareL l) l = true
  | [] => rfl
  | e :: r => by simp [Stmt.bareL, Stmt.sameL, Stmt.bare_same e, Stmt.bareL_same r]
end
theorem Source.bare_same (s : Source) : s.bare.same false s = true := by
  unfold Source.same Source.bare
  simp only
  rw [zip_all _ _ Decl.bare_same, List.length_map, Stmt.bareL_length, Stmt.bareL_same]
  simp
end Sh
