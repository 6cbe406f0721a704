/-
What the abstract values and blocks of the interpreter say of a world: the relation, and how it is handed on from world to world.
-/
import Derived.Test.YtkccojijhaajmaaGreatDoorShAbs
import Derived.Deep.MidRow
import Derived.Room.AppendAny
set_option linter.unusedSimpArgs false
set_option linter.unusedVariables false
set_option linter.unusedSectionVars false
namespace Sh
open Go

/-- How a world goes on: the streams stand, a block of cells stays one of as many cells. -/
structure Grow (w w' : World) : Prop where
  os : w'.os = w.os
  tape : w'.tape = w.tape
  output : w'.output = w.output
  size : w.heap.size ≤ w'.heap.size
  shape : ∀ g s, w.shape? g = some s → w'.shape? g = some s

theorem Grow.refl (w : World) : Grow w w := ⟨rfl, rfl, rfl, Nat.le_refl _, fun _ _ h => h⟩
theorem Grow.trans {a b c : World} (h : Grow a b) (k : Grow b c) : Grow a c :=
  ⟨k.os.trans h.os, k.tape.trans h.tape, k.output.trans h.output, Nat.le_trans h.size k.size, fun g s e => k.shape g s (h.shape g s e)⟩
theorem Grow.drew (w : World) : Grow w w.drew := ⟨rfl, rfl, rfl, Nat.le_refl _, fun _ _ h => h⟩

theorem shape_lt {w : World} {g : Nat} {s : TypeId × Nat} (h : w.shape? g = some s) : g < w.heap.size := by
  unfold World.shape? at h
  cases hb : w.heap[g]? with
  | none => simp [hb] at h
  | some o => exact (Array.getElem?_eq_some_iff.1 hb).1

theorem shape_of_block {w w' : World} {g : Nat} (h : w'.heap[g]? = w.heap[g]?) : w'.shape? g = w.shape? g := by simp only [World.shape?, h]
theorem cell_of_block {w w' : World} {g o : Nat} (h : w'.heap[g]? = w.heap[g]?) : w'.cell? ⟨g, o, none⟩ = w.cell? ⟨g, o, none⟩ := by simp only [World.cell?, h]
theorem frozen_of_block {w w' : World} {g o : Nat} (h : w'.heap[g]? = w.heap[g]?) : w'.frozen? ⟨g, o, none⟩ = w.frozen? ⟨g, o, none⟩ := by simp only [World.frozen?, h]

theorem alloc_old (w : World) (o : Obj) (g : Nat) (h : g < w.heap.size) : (w.alloc o).heap[g]? = w.heap[g]? := by
  show (w.heap.push o)[g]? = _
  rw [Array.getElem?_push, if_neg (by omega)]

theorem alloc_new (w : World) (o : Obj) : (w.alloc o).heap[w.heap.size]? = some o := by
  show (w.heap.push o)[w.heap.size]? = _
  rw [Array.getElem?_push, if_pos rfl]

theorem Grow.alloc (w : World) (o : Obj) : Grow w (w.alloc o) :=
  ⟨rfl, rfl, rfl, by simp, fun g s h => by rw [shape_of_block (alloc_old w o g (shape_lt h))]; exact h⟩

theorem shape_setCell (w : World) (a : Addr) (v : Value) (g : Nat) : (w.setCell a v).shape? g = w.shape? g := by
  by_cases hg : a.block = g
  · subst hg
    simp only [World.shape?, World.setCell, Array.getElem?_modify, if_pos]
    cases h : w.heap[a.block]? with
    | none => simp
    | some o => cases o <;> simp [apply_ite Array.size]
  · simp only [World.shape?, World.setCell, Array.getElem?_modify, if_neg hg]

theorem frozen_setCell (w : World) (a : Addr) (v : Value) (g j : Nat) : (w.setCell a v).frozen? ⟨g, j, none⟩ = w.frozen? ⟨g, j, none⟩ := by
  by_cases hg : a.block = g
  · subst hg
    simp only [World.frozen?, World.setCell, Array.getElem?_modify, if_pos]
    cases h : w.heap[a.block]? with
    | none => simp
    | some o => cases o <;> simp
  · simp only [World.frozen?, World.setCell, Array.getElem?_modify, if_neg hg]

theorem Grow.setCell (w : World) (a : Addr) (v : Value) : Grow w (w.setCell a v) :=
  ⟨rfl, rfl, rfl, by simp, fun g s h => by rw [shape_setCell]; exact h⟩

theorem setCell_block (w : World) (a : Addr) (v : Value) (g : Nat) (h : g ≠ a.block) : (w.setCell a v).heap[g]? = w.heap[g]? := by
  simp only [World.setCell, Array.getElem?_modify]
  rw [if_neg (by omega)]

theorem Grow.setCells (b : Nat) : ∀ (vs : List Value) (o : Nat) (w : World), Grow w (w.setCells b o vs)
  | [], _, w => Grow.refl w
  | v :: r, o, w => (Grow.setCell w _ v).trans (Grow.setCells b r (o + 1) _)

theorem setCells_block (b : Nat) : ∀ (vs : List Value) (o : Nat) (w : World) (g : Nat), g ≠ b → (w.setCells b o vs).heap[g]? = w.heap[g]?
  | [], _, _, _, _ => rfl
  | v :: r, o, w, g, h => by rw [World.setCells, setCells_block b r (o + 1) _ g h, setCell_block w _ v g h]

/-- A value of what is only read: X the blocks that it doesn't lie in. -/
inductive RD (X : Nat → Prop) (w : World) : AV → Value → Prop
  | int (k n) : RD X w (.int k n) (.int k n)
  | bool (b) : RD X w (.bool b) (.bool b)
  | str (s : ByteArray) : RD X w (.str s.data.toList) (.string s)
  | nilp : RD X w .nilp (.pointer none)
  | nils : RD X w .nils (.slice none 0 0)
  | top (v : Value) : v.oneCell' = true → RD X w .top v
  | emp (ao cap) : RD X w (.dsl []) (.slice ao 0 cap)
  | dsl (xs : List AV) (b o es cap : Nat) (f : Nat → Nat → Value) (hX : ¬ X b) (hes : 0 < es) (hxs : xs ≠ []) (hcap : xs.length ≤ cap)
      (hc : ∀ (i : Nat) (v : AV), xs[i]? = some v → ∃ c : List AV, v.cells = some c ∧ c.length = es)
      (hw : ∀ (i : Nat) (v : AV) (c : List AV) (j : Nat) (a : AV), xs[i]? = some v → v.cells = some c → c[j]? = some a → w.cell? ⟨b, o + i * es + j, none⟩ = some (f i j))
      (hr : ∀ (i : Nat) (v : AV) (c : List AV) (j : Nat) (a : AV), xs[i]? = some v → v.cells = some c → c[j]? = some a → RD X w a (f i j)) :
      RD X w (.dsl xs) (.slice (some ⟨b, o, none⟩) xs.length cap)
  | addr (c : List AV) (b o off : Nat) (f : Nat → Value) (hX : ¬ X b) (hne : c ≠ [])
      (hw : ∀ (j : Nat) (a : AV), c[j]? = some a → w.cell? ⟨b, o + j, none⟩ = some (f j))
      (hr : ∀ (j : Nat) (a : AV), c[j]? = some a → RD X w a (f j)) :
      RD X w (.addr c off) (.pointer (some ⟨b, o + off, none⟩))

theorem cell_lt {w : World} {b o : Nat} {v : Value} (h : w.cell? ⟨b, o, none⟩ = some v) : b < w.heap.size := World.block_lt_of_cell? w (a := ⟨b, o, none⟩) h

/-- What is only read stands while no block changes but those in X, and X may gain new blocks. -/
theorem RD.mono {X X' : Nat → Prop} {w w' : World} {a : AV} {v : Value} (h : RD X w a v) (hX : ∀ b, b < w.heap.size → X' b → X b)
    (hb : ∀ b, b < w.heap.size → ¬ X b → w'.heap[b]? = w.heap[b]?) : RD X' w' a v := by
  induction h with
  | int k n => exact .int k n
  | bool b => exact .bool b
  | str s => exact .str s
  | nilp => exact .nilp
  | nils => exact .nils
  | top v h => exact .top v h
  | emp ao cap => exact .emp ao cap
  | dsl xs b o es cap f hXb hes hxs hcap hc hw hr ih =>
    have hlt : b < w.heap.size := by
      cases xs with
      | nil => exact absurd rfl hxs
      | cons v r =>
        obtain ⟨c, h1, h2⟩ := hc 0 v rfl
        cases c with
        | nil => simp at h2; omega
        | cons a c => exact cell_lt (hw 0 v _ 0 a rfl h1 rfl)
    exact .dsl xs b o es cap f (fun h => hXb (hX b hlt h)) hes hxs hcap hc (fun i v c j a h1 h2 h3 => by rw [cell_of_block (hb b hlt hXb)]; exact hw i v c j a h1 h2 h3) ih
  | addr c b o off f hXb hne hw hr ih =>
    have hlt : b < w.heap.size := by
      cases c with
      | nil => exact absurd rfl hne
      | cons a c => exact cell_lt (hw 0 a rfl)
    exact .addr c b o off f (fun h => hXb (hX b hlt h)) hne (fun j a h => by rw [cell_of_block (hb b hlt hXb)]; exact hw j a h) ih

theorem RD.str' {X : Nat → Prop} {w : World} (s : List UInt8) : RD X w (.str s) (.string ⟨s.toArray⟩) := RD.str ⟨s.toArray⟩

theorem RD.one {X : Nat → Prop} {w : World} {a : AV} {v : Value} (h : RD X w a v) : v.oneCell' = true := by
  cases h <;> first | rfl | assumption

/-- What doesn't lie in memory is the same in each world. -/
theorem RD.free {X X' : Nat → Prop} {w w' : World} {a : AV} {v : Value} (h : RD X w a v) (hd : a.isD = false) : RD X' w' a v := by
  cases h with
  | int k n => exact .int k n
  | bool b => exact .bool b
  | str s => exact .str s
  | nilp => exact .nilp
  | nils => exact .nils
  | top v h => exact .top v h
  | emp ao cap => exact .emp ao cap
  | dsl => simp [AV.isD] at hd
  | addr => simp [AV.isD] at hd

/-- where a slice of a live block lies -/
def SlOK (w : World) (g o c es : Nat) (ao : Option Addr) : Prop :=
  (c = 0 ∧ ao = none) ∨ ∃ o', ao = some ⟨g, o', none⟩ ∧ (c ≠ 0 → o' = o) ∧ ∃ E N, w.shape? g = some (E, N) ∧ o' + c * es ≤ N

theorem SlOK.grow {w w' : World} {g o c es : Nat} {ao : Option Addr} (h : SlOK w g o c es ao) (hg : Grow w w') : SlOK w' g o c es ao := by
  rcases h with h | ⟨o', h1, h2, E, N, h4, h5⟩
  · exact .inl h
  · exact .inr ⟨o', h1, h2, E, N, hg.shape _ _ h4, h5⟩

/-- A cell: A the numbers that stand for blocks, ι the blocks. -/
inductive RC (X A : Nat → Prop) (ι : Nat → Nat) (w : World) : AV → Value → Prop
  | deep {a v} : RD X w a v → RC X A ι w a v
  | ptr (i o) : A i → RC X A ι w (.ptr i o) (.pointer (some ⟨ι i, o, none⟩))
  | lsl (i o n es : Nat) (cap : Option Nat) (ao : Option Addr) (c : Nat) : A i → (∀ k, cap = some k → c = k) → n ≤ c →
      SlOK w (ι i) o c es ao →
      RC X A ι w (.lsl i o n cap es) (.slice ao n c)

theorem RC.one {X A : Nat → Prop} {ι : Nat → Nat} {w : World} {a : AV} {v : Value} (h : RC X A ι w a v) : v.oneCell' = true := by
  cases h with
  | deep h => exact h.one
  | ptr => rfl
  | lsl => rfl

theorem RC.mono {X X' A A' : Nat → Prop} {ι ι' : Nat → Nat} {w w' : World} {a : AV} {v : Value} (h : RC X A ι w a v) (hX : ∀ b, b < w.heap.size → X' b → X b)
    (hb : ∀ b, b < w.heap.size → ¬ X b → w'.heap[b]? = w.heap[b]?) (hg : Grow w w') (hA : ∀ i, A i → A' i ∧ ι' i = ι i) : RC X' A' ι' w' a v := by
  cases h with
  | deep h => exact .deep (h.mono hX hb)
  | ptr i o ha => rw [← (hA i ha).2]; exact .ptr i o (hA i ha).1
  | lsl i o n es cap ao c ha hc hn hs =>
    refine .lsl i o n es cap ao c (hA i ha).1 hc hn ?_
    rw [(hA i ha).2]
    exact hs.grow hg

/-- a cell that names no live block -/
theorem RC.toRD {X A : Nat → Prop} {ι : Nat → Nat} {w : World} {a : AV} {v : Value} (h : RC X A ι w a v) (hr : a.ref = none) : RD X w a v := by
  cases h with
  | deep h => exact h
  | ptr => simp [AV.ref] at hr
  | lsl => simp [AV.ref] at hr

/-- pointwise -/
def RL (R : AV → Value → Prop) (c : List AV) (vs : List Value) : Prop :=
  c.length = vs.length ∧ ∀ (j : Nat) (a : AV) (u : Value), c[j]? = some a → vs[j]? = some u → R a u

theorem RL.nil (R : AV → Value → Prop) : RL R [] [] := ⟨rfl, by simp⟩
theorem RL.cons {R : AV → Value → Prop} {a : AV} {u : Value} {c : List AV} {vs : List Value} (h : R a u) (k : RL R c vs) : RL R (a :: c) (u :: vs) :=
  ⟨by simp [k.1], fun j b v hb hv => by
    cases j with
    | zero => simp at hb hv; subst hb; subst hv; exact h
    | succ j => exact k.2 j b v (by simpa using hb) (by simpa using hv)⟩
theorem RL.head {R : AV → Value → Prop} {a : AV} {u : Value} {c : List AV} {vs : List Value} (h : RL R (a :: c) (u :: vs)) : R a u := h.2 0 a u rfl rfl
theorem RL.tail {R : AV → Value → Prop} {a : AV} {u : Value} {c : List AV} {vs : List Value} (h : RL R (a :: c) (u :: vs)) : RL R c vs :=
  ⟨by simpa using h.1, fun j b v hb hv => h.2 (j + 1) b v (by simpa using hb) (by simpa using hv)⟩
theorem RL.imp {R R' : AV → Value → Prop} {c : List AV} {vs : List Value} (h : RL R c vs) (k : ∀ a u, a ∈ c → R a u → R' a u) : RL R' c vs :=
  ⟨h.1, fun j a u ha hu => k a u (List.mem_of_getElem? ha) (h.2 j a u ha hu)⟩
theorem RL.drop {R : AV → Value → Prop} {c : List AV} {vs : List Value} (h : RL R c vs) (n : Nat) : RL R (c.drop n) (vs.drop n) :=
  ⟨by simp [h.1], fun j a u ha hu => h.2 (n + j) a u (by simpa using ha) (by simpa using hu)⟩
theorem RL.take {R : AV → Value → Prop} {c : List AV} {vs : List Value} (h : RL R c vs) (n : Nat) : RL R (c.take n) (vs.take n) :=
  ⟨by simp [h.1], fun j a u ha hu => by
    rw [List.getElem?_take] at ha hu
    split at ha
    · rw [if_pos (by assumption)] at hu; exact h.2 j a u ha hu
    · simp at ha⟩
theorem RL.append {R : AV → Value → Prop} {c d : List AV} {vs us : List Value} (h : RL R c vs) (k : RL R d us) : RL R (c ++ d) (vs ++ us) :=
  ⟨by simp [h.1, k.1], fun j a u ha hu => by
    rw [List.getElem?_append] at ha hu
    split at ha
    · rw [if_pos (by rw [← h.1]; assumption)] at hu; exact h.2 j a u ha hu
    · rw [if_neg (by rw [← h.1]; assumption), ← h.1] at hu; exact k.2 _ a u ha hu⟩
theorem RL.ex {R : AV → Value → Prop} {c : List AV} {vs : List Value} (h : RL R c vs) {j : Nat} {a : AV} (ha : c[j]? = some a) : ∃ u, vs[j]? = some u ∧ R a u := by
  have hj : j < c.length := (List.getElem?_eq_some_iff.1 ha).1
  have hv : vs[j]? = some (vs[j]'(h.1 ▸ hj)) := List.getElem?_eq_getElem _
  exact ⟨_, hv, h.2 j a _ ha hv⟩

/-- A value that is no tuple. -/
def RV1 (X A : Nat → Prop) (ι : Nat → Nat) (w : World) (a : AV) (v : Value) : Prop :=
  match a with
  | .agg c => ∃ vs, v = .agg vs ∧ RL (RC X A ι w) c vs.toList
  | .top => True
  | .tup _ => False
  | a => RC X A ι w a v

/-- A slot's value. -/
def RV (X A : Nat → Prop) (ι : Nat → Nat) (w : World) (a : AV) (v : Value) : Prop :=
  match a with
  | .tup c => ∃ vs, v = .tuple vs ∧ RL (RV1 X A ι w) c vs.toList
  | a => RV1 X A ι w a v

section
variable {X X' A A' : Nat → Prop} {ι ι' : Nat → Nat} {w w' : World}

theorem RV1.mono {a : AV} {v : Value} (h : RV1 X A ι w a v) (hX : ∀ b, b < w.heap.size → X' b → X b)
    (hb : ∀ b, b < w.heap.size → ¬ X b → w'.heap[b]? = w.heap[b]?) (hg : Grow w w') (hA : ∀ i, A i → A' i ∧ ι' i = ι i) : RV1 X' A' ι' w' a v := by
  cases a <;> simp only [RV1] at h ⊢
  case agg c => obtain ⟨vs, hv, hl⟩ := h; exact ⟨vs, hv, hl.imp fun a u _ h => h.mono hX hb hg hA⟩
  all_goals exact h.mono hX hb hg hA

theorem RV.mono {a : AV} {v : Value} (h : RV X A ι w a v) (hX : ∀ b, b < w.heap.size → X' b → X b)
    (hb : ∀ b, b < w.heap.size → ¬ X b → w'.heap[b]? = w.heap[b]?) (hg : Grow w w') (hA : ∀ i, A i → A' i ∧ ι' i = ι i) : RV X' A' ι' w' a v := by
  cases a
  case tup c => obtain ⟨vs, hv, hl⟩ := h; exact ⟨vs, hv, hl.imp fun a u _ h => h.mono hX hb hg hA⟩
  all_goals (simp only [RV] at h ⊢; exact RV1.mono h hX hb hg hA)

theorem RV.of1 {a : AV} {v : Value} (h : RV1 X A ι w a v) : RV X A ι w a v := by
  cases a <;> first | exact h | exact h.elim

theorem RV.ofC {a : AV} {v : Value} (h : RC X A ι w a v) : RV X A ι w a v := by
  cases a
  case agg => cases h with | deep h => cases h
  case tup => cases h with | deep h => cases h
  case top => trivial
  all_goals exact h

theorem RV1.ofC {a : AV} {v : Value} (h : RC X A ι w a v) : RV1 X A ι w a v := by
  cases a
  case agg => cases h with | deep h => cases h
  case tup => cases h with | deep h => cases h
  case top => trivial
  all_goals exact h

/-- a value's cells -/
theorem RV.cells {a : AV} {v : Value} {c : List AV} (h : RV X A ι w a v) (hc : a.cells = some c) : RL (RC X A ι w) c v.cells.toList := by
  cases a <;> simp only [AV.cells, Option.some.injEq, reduceCtorEq] at hc
  case agg => subst hc; obtain ⟨vs, rfl, hl⟩ := h; exact hl
  all_goals
    subst hc
    have h1 : RC X A ι w _ v := h
    have hv : v.cells = #[v] := by
      have := h1.one
      cases v <;> first | rfl | simp [Value.oneCell'] at this
    rw [hv]
    exact RL.cons h1 (RL.nil _)
end

/-- each block stands for one of the world -/
def Blk.solid (_ : Blk) : Prop := True

/-- blocks in use: those of others (X0) and one's own -/
def XL (X0 : Nat → Prop) (ι : Nat → Nat) (H : Nat → Option Blk) (g : Nat) : Prop := X0 g ∨ ∃ i b, H i = some b ∧ b.solid ∧ ι i = g

/-- The live blocks. -/
structure HR (X0 A : Nat → Prop) (ι : Nat → Nat) (w : World) (H : Nat → Option Blk) : Prop where
  blk : ∀ i b, H i = some b → b.solid → ∃ E N, w.shape? (ι i) = some (E, N) ∧ b.c.length ≤ N ∧ (b.op = false → b.c.length = N) ∧
    (∀ j, j < N → w.frozen? ⟨ι i, j, none⟩ = false) ∧
    ∀ j a, b.c[j]? = some a → ∃ u, w.cell? ⟨ι i, j, none⟩ = some u ∧ RC (XL X0 ι H) A ι w a u
  inj : ∀ i j bi bj, H i = some bi → H j = some bj → bi.solid → bj.solid → ι i = ι j → i = j
  own : ∀ i b, H i = some b → b.solid → ¬ X0 (ι i)
  leaf : ∀ i b, H i = some b → b.leaf = true → refs b.c = []
  num : ∀ i b, H i = some b → A i
  typ : ∀ i b T, H i = some b → b.ty = some T → ∃ N, w.shape? (ι i) = some (T, N)
  lt : ∀ g, X0 g → g < w.heap.size

end Sh
