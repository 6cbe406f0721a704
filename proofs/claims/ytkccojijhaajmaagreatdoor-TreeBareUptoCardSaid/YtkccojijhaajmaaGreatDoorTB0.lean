/-
Trees: how great they are, trees without places, alike, counted.
-/
import Derived.Test.YtkccojijhaajmaaGreatDoorTreeData
set_option linter.unusedSimpArgs false
set_option linter.unusedVariables false
set_option linter.unusedSectionVars false
set_option linter.unusedSimpArgs false
namespace Sh
open Go
mutual
def Ex.bulk : Ex → Nat
  | .mk op _ t _ ds => op.length + t.length + Ex.bulkL ds + 5
def Ex.bulkL : List Ex → Nat
  | [] => 0
  | e :: r => e.bulk + Ex.bulkL r
end
theorem Ex.bulk_eq (e : Ex) : e.bulk = e.op.length + e.text.length + Ex.bulkL e.args + 5 := by cases e; simp only [Ex.bulk, Ex.args, Ex.op, Ex.text]
theorem Ex.len_bulkL : ∀ l : List Ex, l.length ≤ Ex.bulkL l
  | [] => Nat.zero_le _
  | e :: r => by
    have := Ex.len_bulkL r
    have h := e.bulk_eq
    simp only [List.length_cons, Ex.bulkL]; omega
theorem Ex.bulk_mem {x : Ex} : ∀ {l : List Ex}, x ∈ l → x.bulk ≤ Ex.bulkL l
  | e :: r, h => by
    simp only [Ex.bulkL]
    rcases List.mem_cons.1 h with rfl | h
    · omega
    · have := Ex.bulk_mem h; omega
def Ref.bulk (r : Ref) : Nat := r.name.length + 2
def Ref.bulkL : List Ref → Nat
  | [] => 0
  | r :: l => r.bulk + Ref.bulkL l
theorem Ref.len_bulkL : ∀ l : List Ref, l.length ≤ Ref.bulkL l
  | [] => Nat.zero_le _
  | e :: r => by have := Ref.len_bulkL r; simp only [List.length_cons, Ref.bulkL, Ref.bulk]; omega
theorem Ref.bulk_mem {x : Ref} : ∀ {l : List Ref}, x ∈ l → x.bulk ≤ Ref.bulkL l
  | e :: r, h => by
    simp only [Ref.bulkL]
    rcases List.mem_cons.1 h with rfl | h
    · omega
    · have := Ref.bulk_mem h; omega
def Place.bulk (p : Place) : Nat := p.node.bulk + p.delay.bulk + p.flags.bulk + 1
def Place.bulkL : List Place → Nat
  | [] => 0
  | r :: l => r.bulk + Place.bulkL l
theorem Place.len_bulkL : ∀ l : List Place, l.length ≤ Place.bulkL l
  | [] => Nat.zero_le _
  | e :: r => by have := Place.len_bulkL r; simp only [List.length_cons, Place.bulkL, Place.bulk]; omega
theorem Place.bulk_mem {x : Place} : ∀ {l : List Place}, x ∈ l → x.bulk ≤ Place.bulkL l
  | e :: r, h => by
    simp only [Place.bulkL]
    rcases List.mem_cons.1 h with rfl | h
    · omega
    · have := Place.bulk_mem h; omega
def Decl.bulk (d : Decl) : Nat := d.kind.length + d.name.bulk + d.value.bulk + Place.bulkL d.places + 1
def Decl.bulkL : List Decl → Nat
  | [] => 0
  | r :: l => r.bulk + Decl.bulkL l
theorem Decl.len_bulkL : ∀ l : List Decl, l.length ≤ Decl.bulkL l
  | [] => Nat.zero_le _
  | e :: r => by have := Decl.len_bulkL r; simp only [List.length_cons, Decl.bulkL, Decl.bulk]; omega
theorem Decl.bulk_mem {x : Decl} : ∀ {l : List Decl}, x ∈ l → x.bulk ≤ Decl.bulkL l
  | e :: r, h => by
    simp only [Decl.bulkL]
    rcases List.mem_cons.1 h with rfl | h
    · omega
    · have := Decl.bulk_mem h; omega
mutual
def Stmt.bulk : Stmt → Nat
  | .mk kind _ name a b c routes block tag body els => kind.length + name.bulk + a.bulk + b.bulk + c.bulk + Ref.bulkL routes + block.bulk + tag.bulk + Stmt.bulkL body + Stmt.bulkL els + 1
def Stmt.bulkL : List Stmt → Nat
  | [] => 0
  | e :: r => e.bulk + Stmt.bulkL r
end
theorem Stmt.bulk_eq (s : Stmt) : s.bulk = s.kind.length + s.name.bulk + s.a.bulk + s.b.bulk + s.c.bulk + Ref.bulkL s.routes + s.block.bulk + s.tag.bulk + Stmt.bulkL s.body + Stmt.bulkL s.els + 1 := by
  cases s; simp only [Stmt.bulk, Stmt.kind, Stmt.name, Stmt.a, Stmt.b, Stmt.c, Stmt.routes, Stmt.block, Stmt.tag, Stmt.body, Stmt.els]
theorem Stmt.len_bulkL : ∀ l : List Stmt, l.length ≤ Stmt.bulkL l
  | [] => Nat.zero_le _
  | e :: r => by
    have := Stmt.len_bulkL r
    have h := e.bulk_eq
    simp only [List.length_cons, Stmt.bulkL]; omega
theorem Stmt.bulk_mem {x : Stmt} : ∀ {l : List Stmt}, x ∈ l → x.bulk ≤ Stmt.bulkL l
  | e :: r, h => by
    simp only [Stmt.bulkL]
    rcases List.mem_cons.1 h with rfl | h
    · omega
    · have := Stmt.bulk_mem h; omega
def Source.bulk (s : Source) : Nat := Decl.bulkL s.decls + Stmt.bulkL s.body + 1

/- places -/
mutual
def Ex.placed : Ex → Bool
  | .mk _ _ _ a ds => a != 0 || Ex.placedL ds
def Ex.placedL : List Ex → Bool
  | [] => false
  | e :: r => e.placed || Ex.placedL r
end
theorem Ex.placed_eq (e : Ex) : e.placed = (e.pos != 0 || Ex.placedL e.args) := by cases e; simp only [Ex.placed, Ex.pos, Ex.args]
def Ref.placedL : List Ref → Bool
  | [] => false
  | r :: l => r.pos != 0 || Ref.placedL l
mutual
def Stmt.placed : Stmt → Bool
  | .mk _ p name a b c routes block tag body els => p != 0 || (name.pos != 0 || (block.pos != 0 || (tag.pos != 0 || (a.placed || (b.placed || (c.placed || (Stmt.placedL body || (Stmt.placedL els || Ref.placedL routes))))))))
def Stmt.placedL : List Stmt → Bool
  | [] => false
  | e :: r => e.placed || Stmt.placedL r
end
theorem Stmt.placed_eq (s : Stmt) : s.placed = (s.pos != 0 || (s.name.pos != 0 || (s.block.pos != 0 || (s.tag.pos != 0 || (s.a.placed || (s.b.placed || (s.c.placed || (Stmt.placedL s.body || (Stmt.placedL s.els || Ref.placedL s.routes))))))))) := by
  cases s; simp only [Stmt.placed, Stmt.pos, Stmt.name, Stmt.a, Stmt.b, Stmt.c, Stmt.routes, Stmt.block, Stmt.tag, Stmt.body, Stmt.els]
def Place.placedL : List Place → Bool
  | [] => false
  | p :: l => p.node.pos != 0 || (p.delay.placed || (p.flags.placed || Place.placedL l))
def Decl.placedL : List Decl → Bool
  | [] => false
  | d :: l => d.name.pos != 0 || (d.value.placed || (Place.placedL d.places || Decl.placedL l))
def Source.placed (s : Source) : Bool := Decl.placedL s.decls || Stmt.placedL s.body

/- without places -/
mutual
def Ex.bare : Ex → Ex
  | .mk op n t _ ds => .mk op n t 0 (Ex.bareL ds)
def Ex.bareL : List Ex → List Ex
  | [] => []
  | e :: r => e.bare :: Ex.bareL r
end
theorem Ex.bare_eq (e : Ex) : e.bare = .mk e.op e.num e.text 0 (Ex.bareL e.args) := by cases e; simp only [Ex.bare, Ex.op, Ex.num, Ex.text, Ex.args]
def Ref.bare (r : Ref) : Ref := ⟨r.name, 0⟩
def Place.bare (p : Place) : Place := ⟨p.node.bare, p.delay.bare, p.flags.bare⟩
def Decl.bare (d : Decl) : Decl := ⟨d.kind, d.name.bare, d.value.bare, d.places.map Place.bare⟩
mutual
def Stmt.bare : Stmt → Stmt
  | .mk kind _ name a b c routes block tag body els => .mk kind 0 name.bare a.bare b.bare c.bare (routes.map Ref.bare) block.bare tag.bare (Stmt.bareL body) (Stmt.bareL els)
def Stmt.bareL : List Stmt → List Stmt
  | [] => []
  | e :: r => e.bare :: Stmt.bareL r
end
theorem Stmt.bare_eq (s : Stmt) : s.bare = .mk s.kind 0 s.name.bare s.a.bare s.b.bare s.c.bare (s.routes.map Ref.bare) s.block.bare s.tag.bare (Stmt.bareL s.body) (Stmt.bareL s.els) := by
  cases s; simp only [Stmt.bare, Stmt.kind, Stmt.pos, Stmt.name, Stmt.a, Stmt.b, Stmt.c, Stmt.routes, Stmt.block, Stmt.tag, Stmt.body, Stmt.els]
def Source.bare (s : Source) : Source := ⟨s.decls.map Decl.bare, Stmt.bareL s.body⟩

/- alike -/
mutual
def Ex.same (p : Bool) : Ex → Ex → Bool
  | .mk o n t a ds, e => o == e.op && (n == e.num && (t == e.text && ((!p || a == e.pos) && (ds.length == e.args.length && Ex.sameL p ds e.args))))
def Ex.sameL (p : Bool) : List Ex → List Ex → Bool
  | x :: l, y :: r => Ex.same p x y && Ex.sameL p l r
  | _, _ => true
end
theorem Ex.same_eq (p : Bool) (x e : Ex) : x.same p e = (x.op == e.op && (x.num == e.num && (x.text == e.text && ((!p || x.pos == e.pos) && (x.args.length == e.args.length && Ex.sameL p x.args e.args))))) := by
  cases x; simp only [Ex.same, Ex.op, Ex.num, Ex.text, Ex.pos, Ex.args]
theorem Ex.sameL_zip (p : Bool) : ∀ (l r : List Ex), Ex.sameL p l r = (l.zip r).all fun q => q.1.same p q.2
  | [], _ => by simp [Ex.sameL]
  | _ :: _, [] => by simp [Ex.sameL]
  | x :: l, y :: r => by simp [Ex.sameL, Ex.sameL_zip p l r]
def Ref.same (p : Bool) (x y : Ref) : Bool := x.name == y.name && (!p || x.pos == y.pos)
def Ref.sameL (p : Bool) (l r : List Ref) : Bool := l.length == r.length && (l.zip r).all fun q => q.1.same p q.2
mutual
def Stmt.same (p : Bool) : Stmt → Stmt → Bool
  | .mk kind pos name a b c routes block tag body els, s => kind == s.kind && ((!p || pos == s.pos) && (name.same p s.name && (block.same p s.block && (tag.same p s.tag && (a.same p s.a && (b.same p s.b && (c.same p s.c && (Ref.sameL p routes s.routes &&
      ((body.length == s.body.length && Stmt.sameL p body s.body) && (els.length == s.els.length && Stmt.sameL p els s.els))))))))))
def Stmt.sameL (p : Bool) : List Stmt → List Stmt → Bool
  | x :: l, y :: r => Stmt.same p x y && Stmt.sameL p l r
  | _, _ => true
end
def Stmt.sameB (p : Bool) (l r : List Stmt) : Bool := l.length == r.length && Stmt.sameL p l r
theorem Stmt.same_eq (p : Bool) (x s : Stmt) : x.same p s = (x.kind == s.kind && ((!p || x.pos == s.pos) && (x.name.same p s.name && (x.block.same p s.block && (x.tag.same p s.tag && (x.a.same p s.a && (x.b.same p s.b && (x.c.same p s.c && (Ref.sameL p x.routes s.routes &&
      (Stmt.sameB p x.body s.body && Stmt.sameB p x.els s.els)))))))))) := by
  cases x; simp only [Stmt.sameB, Stmt.same, Stmt.kind, Stmt.pos, Stmt.name, Stmt.a, Stmt.b, Stmt.c, Stmt.routes, Stmt.block, Stmt.tag, Stmt.body, Stmt.els]
theorem Stmt.sameL_zip (p : Bool) : ∀ (l r : List Stmt), Stmt.sameL p l r = (l.zip r).all fun q => q.1.same p q.2
  | [], _ => by simp [Stmt.sameL]
  | _ :: _, [] => by simp [Stmt.sameL]
  | x :: l, y :: r => by simp [Stmt.sameL, Stmt.sameL_zip p l r]
def Place.same (p : Bool) (x y : Place) : Bool := x.node.same p y.node && (x.delay.same p y.delay && x.flags.same p y.flags)
def Decl.same (p : Bool) (x y : Decl) : Bool := x.kind == y.kind && (x.name.same p y.name && (x.value.same p y.value && (x.places.length == y.places.length && (x.places.zip y.places).all fun q => q.1.same p q.2)))
def Source.same (p : Bool) (x y : Source) : Bool := x.decls.length == y.decls.length && ((x.decls.zip y.decls).all (fun q => q.1.same p q.2) && (x.body.length == y.body.length && Stmt.sameL p x.body y.body))

/- counted -/
mutual
def Stmt.count : Stmt → Nat
  | .mk _ _ _ _ _ _ _ _ _ body els => 1 + Stmt.countL body + Stmt.countL els
def Stmt.countL : List Stmt → Nat
  | [] => 0
  | e :: r => e.count + Stmt.countL r
end
theorem Stmt.count_eq (s : Stmt) : s.count = 1 + Stmt.countL s.body + Stmt.countL s.els := by cases s; simp only [Stmt.count, Stmt.body, Stmt.els]
def Stmt.exL : List Stmt → Nat
  | [] => 0
  | s :: r => Stmt.countL s.body + Stmt.countL s.els + Stmt.exL r
theorem Stmt.countL_ex : ∀ l : List Stmt, Stmt.countL l = l.length + Stmt.exL l
  | [] => by simp [Stmt.countL, Stmt.exL]
  | s :: r => by rw [Stmt.countL, Stmt.count_eq, Stmt.exL, Stmt.countL_ex r, List.length_cons]; omega
mutual
theorem Stmt.count_le : ∀ s : Stmt, s.count ≤ s.bulk
  | .mk _ _ _ _ _ _ _ _ _ body els => by
    have := Stmt.countL_le body
    have := Stmt.countL_le els
    simp only [Stmt.count, Stmt.bulk]; omega
theorem Stmt.countL_le : ∀ l : List Stmt, Stmt.countL l ≤ Stmt.bulkL l
  | [] => by simp [Stmt.countL, Stmt.bulkL]
  | s :: r => by
    have := Stmt.count_le s
    have := Stmt.countL_le r
    simp only [Stmt.countL, Stmt.bulkL]; omega
end
end Sh
