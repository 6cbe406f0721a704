/-
Each operation of the model does what the interpreter says of it: what reads, computes or makes one block.
-/
import Derived.Test.YtkccojijhaajmaaGreatDoorShHeap
import Derived.Laws.Entries
set_option linter.unusedSimpArgs false
set_option linter.unusedVariables false
set_option linter.unusedSectionVars false
namespace Sh
open Go

/-- A frame and the blocks stand for an activation and a world. -/
structure SR (X0 A : Nat → Prop) (ι : Nat → Nat) (w : World) (H : Nat → Option Blk) (t : Fr) (a : Act) : Prop where
  hr : HR X0 A ι w H
  fr : ∀ i, RV (XL X0 ι H) A ι w (t.get i) (a.tmps.getD i undef)

/-- the last thing written -/
def wrGet : List (Nat × Option Blk) → Nat → Option (Option Blk)
  | [], _ => none
  | (j, b) :: r, i => match wrGet r i with
    | some x => some x
    | none => if j = i then some b else none

/-- the blocks behind an operation -/
def upd (H : Nat → Option Blk) (e : Eff) (base : Nat) : Nat → Option Blk := fun i =>
  if base ≤ i ∧ i < base + e.new.length then (e.new[i - base]?).getD none else match wrGet e.wr i with
    | some b => b
    | none => H i

/-- What an operation must come to. -/
def OK (P : Program) (X0 A : Nat → Prop) (ι : Nat → Nat) (w : World) (H : Nat → Option Blk) (t : Fr) (a : Act) (o : Oper) (base : Nat) (e : Eff) : Prop :=
  ∀ (K : Act → World → Prop) (Q : Exit → Act → World → Prop),
    (∀ A' ι' w' a', SR X0 A' ι' w' (upd H e base) (sett t o.dst e.v) a' → Chg A ι w H A' ι' w' (upd H e base) →
      (∀ i, A' i ↔ A i ∨ (base ≤ i ∧ i < base + e.new.length)) → a'.defers = a.defers → a'.tmps.size = a.tmps.size → K a' w') →
    o.wp P a w K Q

theorem get_sett (t : Fr) (d : Nat) (v : AV) (i : Nat) : Fr.get (sett t (some d) v) i = if d = i then v else t.get i := rfl

theorem RV.top {X A ι w} (v : Value) : RV X A ι w .top v := trivial

section
variable {P : Program} {X0 A : Nat → Prop} {ι : Nat → Nat} {w : World} {H : Nat → Option Blk} {t : Fr} {a : Act} {o : Oper} {base : Nat}

theorem fr_put {X A' : Nat → Prop} {ι' : Nat → Nat} {w' : World} {v : AV} {u : Value} (h : ∀ i, RV X A' ι' w' (t.get i) (a.tmps.getD i undef)) (hv : RV X A' ι' w' v u)
    (hd : ∀ d, o.dst = some d → d < a.tmps.size) (i : Nat) : RV X A' ι' w' ((sett t o.dst v).get i) ((a.put o.dst u).tmps.getD i undef) := by
  cases ho : o.dst with
  | none => exact h i
  | some d =>
    rw [get_sett]
    have hlt := hd d ho
    by_cases hi : d = i
    · subst hi
      have : (a.put (some d) u).tmps.getD d undef = u := by simp [Act.put, Array.getD, hlt]
      rw [if_pos rfl, this]; exact hv
    · have : (a.put (some d) u).tmps.getD i undef = a.tmps.getD i undef := by
        simp only [Act.put, Array.getD_eq_getD_getElem?, Array.getElem?_setIfInBounds_ne hi]
      rw [if_neg hi, this]; exact h i

theorem put_defers (d : Option Tmp) (u : Value) : (a.put d u).defers = a.defers := by cases d <;> rfl
theorem put_size (d : Option Tmp) (u : Value) : (a.put d u).tmps.size = a.tmps.size := by cases d <;> simp [Act.put]

theorem upd_none (v : AV) (rd : List Nat) : upd H { v := v, rd := rd } base = H := by
  funext i; simp only [upd, List.length_nil, Nat.add_zero, wrGet]; rw [if_neg (by omega)]
theorem upd_new (v : AV) (rd : List Nat) (b : Blk) : upd H { v := v, rd := rd, new := [some b] } base = lay1 H base b := by
  funext i
  simp only [upd, lay1, wrGet, List.length_cons, List.length_nil]
  by_cases h : i = base
  · subst h; rw [if_pos (by omega), if_pos rfl]; simp
  · rw [if_neg (by omega), if_neg h]
theorem upd_wr (v : AV) (rd : List Nat) (i : Nat) (b : Blk) : upd H { v := v, rd := rd, wr := [(i, some b)] } base = lay1 H i b := by
  funext j
  simp only [upd, lay1, wrGet, List.length_nil, Nat.add_zero]
  rw [if_neg (by omega)]
  by_cases h : j = i
  · subst h; simp
  · rw [if_neg h, if_neg (fun e => h e.symm)]
theorem upd_move (v : AV) (rd : List Nat) (i : Nat) (b : Blk) (h : i ≠ base) : upd H { v := v, rd := rd, wr := [(i, none)], new := [some b] } base = lay1 (kill H i) base b := by
  funext j
  simp only [upd, lay1, kill, wrGet, List.length_cons, List.length_nil]
  by_cases hj : j = base
  · subst hj; rw [if_pos (by omega), if_pos rfl]; simp
  · rw [if_neg (by omega), if_neg hj]
    by_cases h' : j = i
    · subst h'; simp
    · rw [if_neg h', if_neg (fun e => h' e.symm)]

/-- AN OPERATION THAT TURNS NOTHING. -/
theorem ok_pure {v : AV} {u : Value} {rd : List Nat} (hs : SR X0 A ι w H t a) (hd : ∀ d, o.dst = some d → d < a.tmps.size)
    (hr : (execOp a.eval o).run P w = .ok (.value u) w) (hv : RV (XL X0 ι H) A ι w v u) : OK P X0 A ι w H t a o base { v := v, rd := rd } := by
  intro K Q hK
  unfold Oper.wp
  rw [hr, Oper.upon_value]
  refine hK A ι w _ ⟨by rw [upd_none]; exact hs.hr, fun i => ?_⟩ (by rw [upd_none]; exact Chg.refl _ _ _ _) (fun i => by simp; omega) (put_defers _ _) (put_size _ _)
  rw [upd_none]
  exact fr_put hs.fr hv hd i

/-- A NEW BLOCK. -/
theorem ok_new {v : AV} {u : Value} {rd : List Nat} {b : Blk} {C : Array Value} {E : TypeId} {f : Nat × Nat} {w' : World} (hs : SR X0 A ι w H t a) (hd : ∀ d, o.dst = some d → d < a.tmps.size)
    (hn : ¬ A base) (hr : (execOp a.eval o).run P w = .ok (.value u) w') (hg : Grow w w') (hb : ∀ k, k < w.heap.size → w'.heap[k]? = w.heap[k]?) (hnew : w'.heap[w.heap.size]? = some (.cells C E f))
    (hf : Fits b C f (RC (XL X0 ι H) A ι w)) (hty : ∀ T, b.ty = some T → T = E) (hv : RV (XL X0 (setN ι base w.heap.size) (lay1 H base b)) (addN A base) (setN ι base w.heap.size) w' v u) :
    OK P X0 A ι w H t a o base { v := v, rd := rd, new := [some b] } := by
  intro K Q hK
  unfold Oper.wp
  rw [hr, Oper.upon_value]
  obtain ⟨h1, h2⟩ := hs.hr.alloc hn hg hb hnew hf hty
  refine hK (addN A base) (setN ι base w.heap.size) w' _ ⟨by rw [upd_new]; exact h1, fun i => ?_⟩ (by rw [upd_new]; exact h2) (fun i => by simp only [addN, List.length_cons, List.length_nil]; constructor <;> (intro h; rcases h with h | h <;> first | exact .inl h | exact .inr (by omega))) (put_defers _ _) (put_size _ _)
  rw [upd_new]
  exact fr_put (fun i => (hs.fr i).fresh hn hg hb) hv hd i

/-- A BLOCK WRITTEN. -/
theorem ok_write {v : AV} {u : Value} {rd : List Nat} {i N : Nat} {b0 b : Blk} {E : TypeId} {w' : World} {x : Next} (hs : SR X0 A ι w H t a) (hd : ∀ d, o.dst = some d → d < a.tmps.size)
    (hr : (execOp a.eval o).run P w = .ok x w') (hx : (x = .value u) ∨ (x = .skip ∧ u = undef)) (h0 : H i = some b0) (hs0 : b0.solid) (hg : Grow w w')
    (hb : ∀ k, k < w.heap.size → k ≠ ι i → w'.heap[k]? = w.heap[k]?) (hsh : w'.shape? (ι i) = some (E, N)) (hf : FitsAt b w' (ι i) N (RC (XL X0 ι H) A ι w))
    (hty : b.ty = b0.ty) (hv : RV (XL X0 ι H) A ι w v u) : OK P X0 A ι w H t a o base { v := v, rd := rd, wr := [(i, some b)] } := by
  intro K Q hK
  unfold Oper.wp
  obtain ⟨h1, h2, h3⟩ := hs.hr.write h0 hs0 hg hb hsh hf hty
  have hfin : K (a.put o.dst u) w' := by
    refine hK A ι w' _ ⟨by rw [upd_wr]; exact h1, fun i => ?_⟩ (by rw [upd_wr]; exact h2) (fun i => by simp; omega) (put_defers _ _) (put_size _ _)
    rw [upd_wr]
    exact fr_put (fun i => h3 _ _ (hs.fr i)) (h3 _ _ hv) hd i
  rcases hx with rfl | ⟨rfl, rfl⟩
  · rw [hr, Oper.upon_value]; exact hfin
  · rw [hr, Oper.upon_skip]; exact hfin

/-- An operand's value. -/
theorem rc_ofCell {X A ι w} (v : Value) (h : v.oneCell' = true) : RC X A ι w (ofCell v) v := by
  unfold ofCell
  split
  · exact .deep (.int _ _)
  · exact .deep (.bool _)
  · exact .deep (.str _)
  · exact .deep .nilp
  · exact .deep .nils
  · exact .deep (.top _ h)

theorem oneC_eq (v : Value) : oneC v = v.oneCell' := by cases v <;> rfl

theorem rv_ofVal {X A ι w} (v : Value) : RV X A ι w (ofVal v) v := by
  unfold ofVal
  split
  · rename_i c
    cases hc : c.toList.all oneC with
    | false => trivial
    | true =>
      refine ⟨c, rfl, by simp, fun j a u ha hu => ?_⟩
      simp only [List.getElem?_map, Option.map_eq_some_iff] at ha
      obtain ⟨x, hx, rfl⟩ := ha
      have : x = u := by rw [hx] at hu; simpa using hu
      subst this
      exact rc_ofCell _ (by rw [← oneC_eq]; exact List.all_eq_true.1 hc _ (List.mem_of_getElem? hx))
  · rename_i hna
    cases v
    case agg c => exact absurd rfl (hna c)
    case tuple => trivial
    all_goals exact RV.ofC (rc_ofCell _ rfl)

theorem rv_op {X : Nat → Prop} (h : ∀ i, RV X A ι w (t.get i) (a.tmps.getD i undef)) (x : Operand) : RV X A ι w (opv t x) (a.eval x) := by
  cases x with
  | tmp i => exact h i
  | const v => exact rv_ofVal v
  | global g => trivial
  | func f => trivial

/-! ## Layouts -/
theorem info_of_underlying {T : TypeId} {d : TypeDesc} (h : P.underlying T = some d) : ∃ i, P.info? T = some i := by
  unfold Program.underlying at h
  cases hi : P.info? T with
  | none => simp [hi] at h
  | some i => exact ⟨i, rfl⟩

theorem lay_size (T : TypeId) : (lay P T).size = ((P.info? T).map (·.size)).getD 0 := by
  unfold lay; dsimp only; split <;> rfl
theorem lay_zero (T : TypeId) : (lay P T).zero = ((P.info? T).bind (·.zero)).map ofVal := by
  unfold lay; dsimp only; split <;> rfl

theorem lay_struct {T : TypeId} (h : (lay P T).kind = .struct) : ∃ fs, P.underlying T = some (.struct fs) ∧ (∀ f ∈ fs.toList, (P.info? f.type).isSome = true) ∧ (lay P T).offs = fs.toList.map fun f => (f.offset, ((P.info? f.type).map (·.size)).getD 0, f.type) := by
  unfold lay at h ⊢; dsimp only at h ⊢
  cases hu : P.underlying T with
  | none => simp [hu] at h
  | some d =>
    cases d <;> simp only [hu] at h ⊢ <;> try (simp at h; done)
    · split at h <;> cases h
    · split at h <;> cases h
    · rename_i fs
      split at h
      · rename_i hall
        exact ⟨fs, rfl, fun f hf => List.all_eq_true.1 hall f hf, rfl⟩
      · cases h
theorem lay_array {T : TypeId} (h : (lay P T).kind = .array) : ∃ n e, P.underlying T = some (.array n e) ∧ (P.info? e).isSome = true ∧ (lay P T).n = n ∧ (lay P T).es = ((P.info? e).map (·.size)).getD 0 ∧ (lay P T).et = e := by
  unfold lay at h ⊢; dsimp only at h ⊢
  cases hu : P.underlying T with
  | none => simp [hu] at h
  | some d =>
    cases d <;> simp only [hu] at h ⊢ <;> try (simp at h; done)
    · split at h <;> cases h
    · rename_i n e
      split at h
      · exact ⟨n, e, rfl, by assumption, rfl, rfl, rfl⟩
      · cases h
    · split at h <;> cases h
theorem lay_slice {T : TypeId} (h : (lay P T).kind = .slice) : ∃ e, P.underlying T = some (.slice e) ∧ (P.info? e).isSome = true ∧ (lay P T).es = ((P.info? e).map (·.size)).getD 0 := by
  unfold lay at h ⊢; dsimp only at h ⊢
  cases hu : P.underlying T with
  | none => simp [hu] at h
  | some d =>
    cases d <;> simp only [hu] at h ⊢ <;> try (simp at h; done)
    · rename_i e
      split at h
      · exact ⟨e, rfl, by assumption, rfl⟩
      · cases h
    · split at h <;> cases h
    · split at h <;> cases h
theorem lay_string {T : TypeId} (h : (lay P T).kind = .string) : P.underlying T = some .string := by
  unfold lay at h; dsimp only at h
  cases hu : P.underlying T with
  | none => simp [hu] at h
  | some d =>
    cases d <;> simp only [hu] at h ⊢ <;> try (simp at h; done)
    · split at h <;> cases h
    · split at h <;> cases h
    · split at h <;> cases h
theorem lay_offs {T : TypeId} {f : Nat} {d : Nat × Nat × Nat} (h : (lay P T).offs[f]? = some d) : ∃ fs, P.underlying T = some (.struct fs) ∧ (lay P T).offs = fs.toList.map fun f => (f.offset, ((P.info? f.type).map (·.size)).getD 0, f.type) := by
  unfold lay at h ⊢; dsimp only at h ⊢
  split at h <;> simp_all

theorem lay_row {T : TypeId} (h : (lay P T).kind = .struct ∨ (lay P T).kind = .array) : ∃ d, P.underlying T = some d ∧ d.isRow = true := by
  rcases h with hk | hk
  · obtain ⟨fs, h1, _⟩ := lay_struct hk; exact ⟨_, h1, rfl⟩
  · obtain ⟨n, e, h1, _⟩ := lay_array hk; exact ⟨_, h1, rfl⟩

theorem lay_cell {T : TypeId} (h1 : (lay P T).kind ≠ .struct) (h2 : (lay P T).kind ≠ .array) (h3 : (lay P T).kind ≠ .bad) : ∃ d, P.underlying T = some d ∧ d.isRow = false := by
  unfold lay at h1 h2 h3; dsimp only at h1 h2 h3
  cases hu : P.underlying T with
  | none => simp [hu] at h3
  | some d =>
    refine ⟨d, rfl, ?_⟩
    rw [hu] at h1 h2 h3
    cases d <;> try rfl
    · simp only at h2 h3; split at h2 <;> simp_all
    · simp only at h1 h3; split at h1 <;> simp_all
end
end Sh
/-
The operations, one by one: moves, blocks of one variable, loads and stores, parts of values.
-/
set_option linter.unusedSimpArgs false
namespace Sh
open Go

theorem bnd_some {α β : Type} {r : Option β} {k : β → Option α} {v : α} (h : r.bnd k = some v) : ∃ u, r = some u ∧ k u = some v := by
  cases r with
  | none => exact absurd h (by simp [Option.bnd, bindR])
  | some u => exact ⟨u, rfl, h⟩

theorem mpd_some {α β : Type} {r : Option β} {k : β → α} {v : α} (h : r.mpd k = some v) : ∃ u, r = some u ∧ k u = v := by
  cases r with
  | none => exact absurd h (by simp [Option.mpd, bindR])
  | some u => exact ⟨u, rfl, by simpa [Option.mpd, bindR] using h⟩

theorem of_some {v : AV} {e : Eff} (h : Eff.of v = some e) : e = { v := v } := by
  simpa [Eff.of] using h.symm

section
variable {P : Program} {X0 A : Nat → Prop} {ι : Nat → Nat} {w : World} {H : Nat → Option Blk} {t t' : Fr} {h : Heap} {a : Act} {base : Nat} {e : Eff} {dst : Option Tmp} {ty : TypeId} {pos : String} {af : Array Edge} {gd : Option (Nat × Bool)}

theorem HR.cellAt (h : HR X0 A ι w H) {i : Nat} {b : Blk} (hH : H i = some b) (j : Nat) (x : AV) (hx : b.c[j]? = some x) : ∃ u, w.cell? ⟨ι i, j, none⟩ = some u ∧ RC (XL X0 ι H) A ι w x u := by
  have hsol : b.solid := trivial
  obtain ⟨E, N, h1, h2, h3, h4, h5⟩ := h.blk i b hH hsol
  exact h5 j x hx

abbrev XR (_P : Program) (X0 A : Nat → Prop) (ι : Nat → Nat) (w : World) (H : Nat → Option Blk) (a : Act) (t : Fr) (x : Operand) : Prop := RV (XL X0 ι H) A ι w (opv t x) (a.eval x)

theorem ok_move {x : Operand} (hs : SR X0 A ι w H t' a) (hd : ∀ d, dst = some d → d < a.tmps.size) (hx : XR P X0 A ι w H a t x)
    (he : Eff.of (opv t x) = some e) : OK P X0 A ι w H t' a ⟨dst, .move x, ty, pos, af, gd⟩ base e := by
  rw [of_some he]; exact ok_pure hs hd rfl hx

theorem ok_assign {x : Operand} (hs : SR X0 A ι w H t' a) (hd : ∀ d, dst = some d → d < a.tmps.size) (hx : XR P X0 A ι w H a t x)
    (he : Eff.of (opv t x) = some e) : OK P X0 A ι w H t' a ⟨dst, .assign x, ty, pos, af, gd⟩ base e := by
  rw [of_some he]; exact ok_pure hs hd rfl hx

/-- what a bool stands for -/
theorem rv_bool {X A ι w} {b : Bool} {v : Value} (h : RV X A ι w (.bool b) v) : v = .bool b := by
  have h : RC X A ι w (.bool b) v := h
  cases h with | deep h => cases h; rfl
theorem rv_int {X A ι w} {k : IntKind} {n : Int} {v : Value} (h : RV X A ι w (.int k n) v) : v = .int k n := by
  have h : RC X A ι w (.int k n) v := h
  cases h with | deep h => cases h; rfl
theorem rv_str {X A ι w} {s : List UInt8} {v : Value} (h : RV X A ι w (.str s) v) : v = .string ⟨s.toArray⟩ := by
  have h : RC X A ι w (.str s) v := h
  cases h with | deep h => cases h; rfl
theorem rv_ptr {X A ι w} {i o : Nat} {v : Value} (h : RV X A ι w (.ptr i o) v) : A i ∧ v = .pointer (some ⟨ι i, o, none⟩) := by
  have h : RC X A ι w (.ptr i o) v := h
  cases h with
  | deep h => cases h
  | ptr i o ha => exact ⟨ha, rfl⟩
theorem rv_nils {X A ι w} {v : Value} (h : RV X A ι w .nils v) : v = .slice none 0 0 := by
  have h : RC X A ι w .nils v := h
  cases h with | deep h => cases h; rfl
theorem rv_nilp {X A ι w} {v : Value} (h : RV X A ι w .nilp v) : v = .pointer none := by
  have h : RC X A ι w .nilp v := h
  cases h with | deep h => cases h; rfl
theorem rv_agg {X A ι w} {c : List AV} {v : Value} (h : RV X A ι w (.agg c) v) : ∃ vs, v = .agg vs ∧ RL (RC X A ι w) c vs.toList := h
theorem rv_tup {X A ι w} {c : List AV} {v : Value} (h : RV X A ι w (.tup c) v) : ∃ vs, v = .tuple vs ∧ RL (RV1 X A ι w) c vs.toList := h
theorem rv_addr {X A ι w} {c : List AV} {off : Nat} {v : Value} (h : RV X A ι w (.addr c off) v) :
    ∃ b o, ∃ f : Nat → Value, v = .pointer (some ⟨b, o + off, none⟩) ∧ ¬ X b ∧ c ≠ [] ∧ (∀ (j : Nat) (a : AV), c[j]? = some a → w.cell? ⟨b, o + j, none⟩ = some (f j)) ∧ (∀ (j : Nat) (a : AV), c[j]? = some a → RD X w a (f j)) := by
  have h : RC X A ι w (.addr c off) v := h
  cases h with | deep h => cases h with | addr _ b o _ f h1 h2 h3 h4 => exact ⟨b, o, f, rfl, h1, h2, h3, h4⟩
theorem rv_lsl {X A ι w} {i o n es : Nat} {cap : Option Nat} {v : Value} (h : RV X A ι w (.lsl i o n cap es) v) :
    ∃ ao c, v = .slice ao n c ∧ A i ∧ (∀ k, cap = some k → c = k) ∧ n ≤ c ∧ SlOK w (ι i) o c es ao := by
  have h : RC X A ι w (.lsl i o n cap es) v := h
  cases h with
  | deep h => cases h
  | lsl _ _ _ _ _ ao c h1 h2 h3 h4 => exact ⟨ao, c, rfl, h1, h2, h3, h4⟩

theorem ok_pick {c x y : Operand} (hs : SR X0 A ι w H t' a) (hd : ∀ d, dst = some d → d < a.tmps.size) (hc : XR P X0 A ι w H a t c) (hx : XR P X0 A ι w H a t x) (hy : XR P X0 A ι w H a t y)
    (he : (match opv t c with
    | .bool true => Eff.of (opv t x)
    | .bool false => Eff.of (opv t y)
    | _ => none) = some e) : OK P X0 A ι w H t' a ⟨dst, .pick c x y, ty, pos, af, gd⟩ base e := by
  unfold XR at hc
  cases hv : opv t c <;> rw [hv] at he hc <;> try (simp at he; done)
  rename_i b
  have hb := rv_bool hc
  cases b
  · rw [of_some he]; exact ok_pure hs hd (by simp [execOp, hb, asBool]) hy
  · rw [of_some he]; exact ok_pure hs hd (by simp [execOp, hb, asBool]) hx

theorem tagA_some {z : Option AV} {T T' : TypeId} (h : tagA z T = some T') : T' = T := by
  unfold tagA at h; split at h
  · cases h; rfl
  · cases h

theorem ok_newVar {v : Value} {c : List AV} {T : TypeId} {leaf : Bool} {o : Oper} (hs : SR X0 A ι w H t' a) (hd : ∀ d, o.dst = some d → d < a.tmps.size) (hn : ¬ A base)
    (hr : (execOp a.eval o).run P w = .ok (.value (.pointer (some ⟨w.heap.size, 0, none⟩))) (w.alloc (.cells v.cells T))) (hc : RL (RC (XL X0 ι H) A ι w) c v.cells.toList) (hl : leaf = true → refs c = []) {tg : Option TypeId} (htg : ∀ T', tg = some T' → T' = T) :
    OK P X0 A ι w H t' a o base { v := .ptr base 0, new := [some ⟨c, false, leaf, tg⟩] } := by
  refine ok_new hs hd hn hr (Grow.alloc _ _) (alloc_old w _) (alloc_new w _) ⟨by simpa using Nat.le_of_eq hc.1, fun _ => by simpa using hc.1, fun j _ h => by omega, fun j x hx => ?_, hl⟩ htg ?_
  · obtain ⟨u, hu, hR⟩ := hc.ex hx
    exact ⟨u, by simpa using hu, hR⟩
  · refine RV.ofC ?_
    have := RC.ptr (X := XL X0 (setN ι base w.heap.size) (lay1 H base ⟨c, false, leaf, tg⟩)) (A := addN A base) (ι := setN ι base w.heap.size) (w := w.alloc (.cells v.cells T)) base 0 (.inr rfl)
    rwa [setN_same] at this

theorem ok_alloc {T : TypeId} (hs : SR X0 A ι w H t' a) (hd : ∀ d, dst = some d → d < a.tmps.size) (hn : e.new ≠ [] → ¬ A base)
    (he : ((lay P T).zero.bnd fun z => z.cells.bnd fun c => some ({ v := .ptr base 0, new := [some ⟨c, false, false, tagA (lay P T).zero T⟩] } : Eff)) = some e) : OK P X0 A ι w H t' a ⟨dst, .alloc T, ty, pos, af, gd⟩ base e := by
  obtain ⟨z, hz, he⟩ := bnd_some he
  obtain ⟨c, hc, he2⟩ := bnd_some he
  rw [lay_zero] at hz
  obtain ⟨z', hz', rfl⟩ := Option.map_eq_some_iff.1 hz
  cases hi : P.info? T with
  | none => simp [hi] at hz'
  | some i =>
    have hz2 : i.zero = some z' := by simpa [hi] using hz'
    have he3 := Option.some.inj he2
    subst he3
    refine ok_newVar (v := z') (T := T) hs hd (hn (by simp)) ?_ ((rv_ofVal z').cells hc) (by simp) (fun T' h => tagA_some h)
    simp [execOp, Instr.alloc, zeroValue, typeInfo, hi, hz2, newVar, newRow]

theorem ok_box {T : TypeId} {x : Operand} (hs : SR X0 A ι w H t' a) (hd : ∀ d, dst = some d → d < a.tmps.size) (hn : e.new ≠ [] → ¬ A base) (hx : XR P X0 A ι w H a t x)
    (he : ((opv t x).cells.bnd fun c => some ({ v := .ptr base 0, new := [some ⟨c, false, false, none⟩] } : Eff)) = some e) : OK P X0 A ι w H t' a ⟨dst, .box T x, ty, pos, af, gd⟩ base e := by
  obtain ⟨c, hc, he⟩ := bnd_some he
  simp only [Option.some.injEq] at he
  subst he
  refine ok_newVar (v := a.eval x) (T := T) hs hd (hn (by simp)) ?_ (RV.cells hx hc) (by simp) (fun _ h => by cases h)
  simp [execOp, Instr.box, newVar, newRow]

theorem ok_nilCheck {x : Operand} (hs : SR X0 A ι w H t' a) (hd : ∀ d, dst = some d → d < a.tmps.size) (hx : XR P X0 A ι w H a t x)
    (he : (match opv t x with
    | .ptr i o => Eff.of (.ptr i o)
    | .addr c o => Eff.of (.addr c o)
    | _ => none) = some e) : OK P X0 A ι w H t' a ⟨dst, .nilCheck x, ty, pos, af, gd⟩ base e := by
  unfold XR at hx
  cases hv : opv t x <;> rw [hv] at he hx <;> try (simp at he; done)
  · rw [of_some he]
    have := (rv_ptr hx).2
    exact ok_pure hs hd (u := a.eval x) (by simp [execOp, this]) hx
  · rw [of_some he]
    obtain ⟨b, o, f, hu, _⟩ := rv_addr hx
    exact ok_pure hs hd (u := a.eval x) (by simp [execOp, hu]) hx

theorem run_fieldAt {S : TypeId} {f : Nat} {d : Nat × Nat × Nat} {b o : Nat} (hf : (lay P S).offs[f]? = some d) (hsz : d.2.1 ≠ 0) :
    (Instr.fieldAt S (.pointer (some ⟨b, o, none⟩)) f).run P w = .ok (.pointer (some ⟨b, o + d.1, none⟩)) w := by
  obtain ⟨fs, h1, h2⟩ := lay_offs hf
  rw [h2] at hf
  simp only [List.getElem?_map, Option.map_eq_some_iff] at hf
  obtain ⟨fl, hfl, rfl⟩ := hf
  have hfl' : fs[f]? = some fl := by simpa using hfl
  cases hi : P.info? fl.type with
  | none => simp [hi] at hsz
  | some i =>
    simp only [hi, Option.map_some, Option.getD_some] at hsz
    simp [Instr.fieldAt, run_underlying h1, hfl', Instr.sureAddr, fieldPlace, Go.sizeOf, typeInfo, hi, hsz, Addr.add_mid]

theorem ok_fieldAddr {S : TypeId} {x : Operand} {f : Nat} (hs : SR X0 A ι w H t' a) (hd : ∀ d, dst = some d → d < a.tmps.size) (hx : XR P X0 A ι w H a t x)
    (he : (((lay P S).offs[f]?).bnd fun d => match d.2.1 with
    | 0 => none
    | _ + 1 => match opv t x with
      | .ptr i o => Eff.of (.ptr i (o + d.1))
      | .addr c o => Eff.of (.addr c (o + d.1))
      | _ => none) = some e) : OK P X0 A ι w H t' a ⟨dst, .fieldAddr S x f, ty, pos, af, gd⟩ base e := by
  obtain ⟨d, hf, he⟩ := bnd_some he
  unfold XR at hx
  have hsz : d.2.1 ≠ 0 := by intro h0; rw [h0] at he; simp at he
  obtain ⟨k, hk⟩ := Nat.exists_eq_succ_of_ne_zero hsz
  rw [hk] at he
  simp only at he
  cases hv : opv t x <;> rw [hv] at he hx <;> try (simp at he; done)
  · rw [of_some he]
    obtain ⟨ha, hu⟩ := rv_ptr hx
    refine ok_pure hs hd (u := .pointer (some ⟨ι _, _ + d.1, none⟩)) (by simp [execOp, hu, run_fieldAt (P := P) (w := w) hf hsz]) (RV.ofC (.ptr _ _ ha))
  · rw [of_some he]
    obtain ⟨b, o, g, hu, h1, h2, h3, h4⟩ := rv_addr hx
    refine ok_pure hs hd (u := .pointer (some ⟨b, o + _ + d.1, none⟩)) (by simp [execOp, hu, run_fieldAt (P := P) (w := w) hf hsz]; rfl) ?_
    rw [Nat.add_assoc]
    exact RV.ofC (.deep (.addr _ b o _ g h1 h2 h3 h4))

/-- cells that lie in memory, as a row -/
theorem range_of {R : AV → Value → Prop} {g o : Nat} {c : List AV} (h : ∀ (j : Nat) (x : AV), c[j]? = some x → ∃ u, w.cell? ⟨g, o + j, none⟩ = some u ∧ R x u) :
    ∃ vs, RL R c vs ∧ w.rangeAt g o vs := by
  induction c generalizing o with
  | nil => exact ⟨[], RL.nil _, by intro j v h; simp at h⟩
  | cons x c ih =>
    obtain ⟨u, hu, hR⟩ := h 0 x rfl
    obtain ⟨vs, h1, h2⟩ := ih (o := o + 1) (fun j y hy => by
      have := h (j + 1) y (by simpa using hy)
      rwa [show o + 1 + j = o + (j + 1) by omega])
    refine ⟨u :: vs, RL.cons hR h1, fun j v hv => ?_⟩
    cases j with
    | zero => simp at hv; subst hv; simpa using hu
    | succ j => have := h2 j v (by simpa using hv); rwa [show o + (j + 1) = o + 1 + j by omega]

theorem getr_some {c r : List AV} {off n : Nat} (h : getr c off n = some r) : off + n ≤ c.length ∧ r = (c.drop off).take n ∧ r.length = n ∧ ∀ j, r[j]? = if j < n then c[off + j]? else none := by
  unfold getr at h
  split at h
  · rename_i hle
    simp only [Option.some.injEq] at h
    subst h
    refine ⟨hle, rfl, by simp; omega, fun j => ?_⟩
    rw [List.getElem?_take]
    split <;> simp
  · simp at h

/-- a part of a row of cells is loaded -/
theorem run_load_of {T : TypeId} {R : AV → Value → Prop} {g o : Nat} {c : List AV} {v : AV} (h : ldc (lay P T) c o = some v) {g0 : Nat}
    (hc : ∀ (j : Nat) (x : AV), c[j]? = some x → ∃ u, w.cell? ⟨g, g0 + j, none⟩ = some u ∧ R x u) :
    ∃ u, (Instr.loadAt T (.pointer (some ⟨g, g0 + o, none⟩))).run P w = .ok u w ∧
      (((∃ r, v = .agg r ∧ (∀ x ∈ r, x ∈ c) ∧ ∃ vs, u = .agg vs ∧ RL R r vs.toList)) ∨ (v ∈ c ∧ R v u)) := by
  unfold ldc at h
  by_cases hag : (lay P T).kind = .struct ∨ (lay P T).kind = .array
  · have h : (getr c o (lay P T).size).mpd .agg = some v := by rcases hag with hk | hk <;> rw [hk] at h <;> exact h
    obtain ⟨r, hr, rfl⟩ := mpd_some h
    obtain ⟨h1, h2, h3, h4⟩ := getr_some hr
    obtain ⟨d, hu, hrow⟩ := lay_row hag
    obtain ⟨i, hi⟩ := info_of_underlying hu
    have hsz : (lay P T).size = i.size := by rw [lay_size, hi]; rfl
    obtain ⟨vs, hl, hrange⟩ := range_of (w := w) (R := R) (g := g) (o := g0 + o) (c := r) (fun j x hx => by
      rw [h4 j] at hx
      split at hx
      · have := hc (o + j) x hx; rwa [← Nat.add_assoc] at this
      · simp at hx)
    refine ⟨.agg vs.toArray, run_loadAt_mid w g (g0 + o) T vs d hrange hu hrow (by rw [hi]; simp [← hl.1, h3, hsz]), .inl ⟨r, rfl, fun x hx => ?_, vs.toArray, rfl, by simpa using hl⟩⟩
    rw [h2] at hx
    exact List.mem_of_mem_drop (List.mem_of_mem_take hx)
  · have h1 : (lay P T).kind ≠ .struct := fun e => hag (.inl e)
    have h2 : (lay P T).kind ≠ .array := fun e => hag (.inr e)
    have h3 : (lay P T).kind ≠ .bad := fun e => by rw [e] at h; simp at h
    have h : c[o]? = some v := by
      cases hk : (lay P T).kind <;> rw [hk] at h <;> first | exact h | exact absurd hk ‹_›
    obtain ⟨u, hu, hR⟩ := hc o v h
    obtain ⟨d, hun, hrow⟩ := lay_cell h1 h2 h3
    have hagg : (isAgg T).run P w = .ok false w := by
      unfold isAgg
      rw [Sem.run_bind, run_underlying hun w]
      cases d <;> simp_all
    refine ⟨u, ?_, .inr ⟨List.mem_of_getElem? h, hR⟩⟩
    simp [Instr.loadAt, Instr.sureAddr, loadVar, hagg, hu]

theorem ok_load {T : TypeId} {x : Operand} (hs : SR X0 A ι w H t' a) (hd : ∀ d, dst = some d → d < a.tmps.size) (hx : XR P X0 A ι w H a t x) (hrd : ∀ i ∈ e.rd, H i = hget h i)
    (he : (match opv t x with
    | .ptr i o => (hget h i).bnd fun b => (ldc (lay P T) b.c o).bnd fun v => some ({ v := v, rd := [i] } : Eff)
    | .addr c o => (ldc (lay P T) c o).bnd Eff.of
    | _ => none) = some e) : OK P X0 A ι w H t' a ⟨dst, .load T x, ty, pos, af, gd⟩ base e := by
  unfold XR at hx
  cases hv : opv t x <;> rw [hv] at he hx <;> try (simp at he; done)
  · rename_i i o
    obtain ⟨b, hb, he⟩ := bnd_some he
    obtain ⟨v, hl, he⟩ := bnd_some he
    have he := Option.some.inj he
    subst he
    have hH : H i = some b := by rw [hrd i (by simp), hb]
    obtain ⟨ha, hu⟩ := rv_ptr hx
    have h5 := hs.hr.cellAt hH
    obtain ⟨u, hrun, hcase⟩ := run_load_of (P := P) (w := w) (R := RC (XL X0 ι H) A ι w) (g := ι i) (g0 := 0) hl (fun j x hx => by simpa using h5 j x hx)
    rw [Nat.zero_add] at hrun
    refine ok_pure hs hd (u := u) (by simp [execOp, hu, hrun]) ?_
    rcases hcase with ⟨r, rfl, _, vs, rfl, hl⟩ | ⟨_, hR⟩
    · exact ⟨vs, rfl, hl⟩
    · exact RV.ofC hR
  · rename_i c o
    obtain ⟨v, hl, he⟩ := bnd_some he
    rw [of_some he]
    obtain ⟨b, o0, f, hu, h1, h2, h3, h4⟩ := rv_addr hx
    obtain ⟨u, hrun, hcase⟩ := run_load_of (P := P) (w := w) (R := RC (XL X0 ι H) A ι w) (g := b) (g0 := o0) hl (fun j x hx => ⟨f j, h3 j x hx, .deep (h4 j x hx)⟩)
    refine ok_pure hs hd (u := u) (by simp [execOp, hu, hrun]) ?_
    rcases hcase with ⟨r, rfl, _, vs, rfl, hl⟩ | ⟨_, hR⟩
    · exact ⟨vs, rfl, hl⟩
    · exact RV.ofC hR
end
end Sh
/-
The operations, one by one: stores, values built of parts, indexes, slices of slices.
-/
set_option linter.unusedSimpArgs false
namespace Sh
open Go

section
variable {P : Program} {X0 A : Nat → Prop} {ι : Nat → Nat} {w : World} {H : Nat → Option Blk} {t t' : Fr} {h : Heap} {a : Act} {base : Nat} {e : Eff} {dst : Option Tmp} {ty : TypeId} {pos : String} {af : Array Edge} {gd : Option (Nat × Bool)}

theorem putr_some {c v r : List AV} {off : Nat} (h : putr c off v = some r) : off + v.length ≤ c.length ∧ r = c.take off ++ (v ++ c.drop (off + v.length)) ∧ r.length = c.length ∧
    ∀ j, r[j]? = if j < off then c[j]? else if j < off + v.length then v[j - off]? else c[j]? := by
  unfold putr at h
  split at h
  · rename_i hle
    simp only [Option.some.injEq] at h
    subst h
    refine ⟨hle, rfl, by simp; omega, fun j => ?_⟩
    rw [List.getElem?_append, List.length_take, Nat.min_eq_left (by omega)]
    split
    · rw [List.getElem?_take, if_pos (by assumption)]
    · rw [List.getElem?_append]
      split
      · rw [if_pos (by omega)]
      · rw [if_neg (by omega), List.getElem?_drop]
        congr 1; omega
  · simp at h

/-- cells written into a live block -/
theorem fits_put {X A : Nat → Prop} {g N : Nat} {b : Blk} {c' vc : List AV} {us : List Value} {o : Nat} {E : TypeId}
    (hN : b.c.length ≤ N) (hop : b.op = false → b.c.length = N) (hsh : w.shape? g = some (E, N)) (hfz : ∀ j, j < N → w.frozen? ⟨g, j, none⟩ = false)
    (hcell : ∀ (j : Nat) (x : AV), b.c[j]? = some x → ∃ u, w.cell? ⟨g, j, none⟩ = some u ∧ RC X A ι w x u)
    (hp : putr b.c o vc = some c') (hv : RL (RC X A ι w) vc us) (hleaf : b.leaf = true → refs c' = []) :
    FitsAt { b with c := c' } (w.setCells g o us) g N (RC X A ι w) := by
  obtain ⟨h1, _, h3, h4⟩ := putr_some hp
  refine ⟨by simpa [h3] using hN, fun h => by simpa [h3] using hop h, fun j hj => by rw [World.frozen?_setCells]; exact hfz j hj, fun j x hx => ?_, hleaf⟩
  have hlen := hv.1
  have hthere : ∀ j, j < us.length → (w.cell? ⟨g, o + j, none⟩).isSome = true := fun j hj => by
    obtain ⟨x, hx⟩ : ∃ x, b.c[o + j]? = some x := ⟨_, List.getElem?_eq_getElem (by omega)⟩
    obtain ⟨u, hu, _⟩ := hcell (o + j) x hx
    simp [hu]
  simp only at hx
  rw [h4 j] at hx
  split at hx
  · obtain ⟨u, hu, hR⟩ := hcell j x hx
    exact ⟨u, by rw [World.cell?_setCells_out g us o w _ (fun _ _ => .inl (by assumption))]; exact hu, hR⟩
  · split at hx
    · obtain ⟨u, hu, hR⟩ := hv.ex hx
      have hj : j - o < us.length := (List.getElem?_eq_some_iff.1 hu).1
      refine ⟨u, ?_, hR⟩
      have := World.cell?_setCells_in g us o w hthere (j - o) hj
      rw [show o + (j - o) = j by omega] at this
      rw [this, ← List.getElem?_eq_getElem hj, hu]
    · obtain ⟨u, hu, hR⟩ := hcell j x hx
      exact ⟨u, by rw [World.cell?_setCells_out g us o w _ (fun _ _ => .inr (by simp; omega))]; exact hu, hR⟩

theorem refs_append (c d : List AV) : refs (c ++ d) = refs c ++ refs d := by
  induction c with
  | nil => rfl
  | cons v r ih => simp only [List.cons_append, refs]; split <;> simp [ih]

theorem refs_mem {c : List AV} (h : refs c = []) {v : AV} (hv : v ∈ c) : v.ref = none := by
  induction c with
  | nil => simp at hv
  | cons x r ih =>
    simp only [refs] at h
    split at h
    · simp at h
    · rename_i hx
      rcases List.mem_cons.1 hv with rfl | hv
      · exact hx
      · exact ih h hv

theorem refs_nil_of {c : List AV} (h : ∀ v ∈ c, v.ref = none) : refs c = [] := by
  induction c with
  | nil => rfl
  | cons x r ih => simp only [refs, h x (by simp)]; exact ih (fun v hv => h v (by simp [hv]))

theorem refs_put {c v r : List AV} {off : Nat} (h : putr c off v = some r) (hc : refs c = []) (hv : refs v = []) : refs r = [] := by
  obtain ⟨_, h2, _⟩ := putr_some h
  refine refs_nil_of fun x hx => ?_
  rw [h2] at hx
  rcases List.mem_append.1 hx with hx | hx
  · exact refs_mem hc (List.mem_of_mem_take hx)
  · rcases List.mem_append.1 hx with hx | hx
    · exact refs_mem hv hx
    · exact refs_mem hc (List.mem_of_mem_drop hx)

/-- a value's cells as they are stored -/
theorem run_storeAt_of {T : TypeId} {v : Value} {g o : Nat} (hone : ∀ u ∈ v.cells.toList, u.oneCell' = true) (hsz : v.cells.size = (lay P T).size) (hne : v.cells.size ≠ 0 ∨ (P.info? T).isSome)
    (hth : ∀ j, j < v.cells.size → (w.cell? ⟨g, o + j, none⟩).isSome = true ∧ w.frozen? ⟨g, o + j, none⟩ = false) :
    (Instr.storeAt T (.pointer (some ⟨g, o, none⟩)) v).run P w = .ok () (w.setCells g o v.cells.toList) := by
  cases hi : P.info? T with
  | none =>
    rw [lay_size, hi] at hsz
    simp [hi] at hne
    simp at hsz
    exact absurd (by simpa using hsz) hne
  | some i =>
    have hs : v.cells.size = i.size := by rw [hsz, lay_size, hi]; rfl
    have := run_storeCells_cells (P := P) g o v.cells.toList 0 w (fun j hj => by simpa using (hth j (by simpa using hj)).1) (fun j hj => by simpa using (hth j (by simpa using hj)).2) hone
    simp only [Nat.add_zero] at this
    simp [Instr.storeAt, Instr.sureAddr, storeVar, Go.sizeOf, typeInfo, hi, hs, this]

theorem ok_store {T : TypeId} {x y : Operand} (hs : SR X0 A ι w H t' a) (hd : ∀ d, dst = some d → d < a.tmps.size) (hx : XR P X0 A ι w H a t x) (hy : XR P X0 A ι w H a t y) (hrd : ∀ i ∈ e.rd, H i = hget h i)
    (he : (match opv t x with
    | .ptr i o => (hget h i).bnd fun b => (opv t y).cells.bnd fun vc =>
        match fits b.leaf vc with
        | true => if vc.length = (lay P T).size ∧ vc.length ≠ 0 then (putr b.c o vc).bnd fun c => some ({ v := .top, rd := [i], wr := [(i, some { b with c := c })] } : Eff) else none
        | false => none
    | _ => none) = some e) : OK P X0 A ι w H t' a ⟨dst, .store T x y, ty, pos, af, gd⟩ base e := by
  unfold XR at hx hy
  cases hv : opv t x <;> rw [hv] at he hx <;> try (simp at he; done)
  rename_i i o
  obtain ⟨b, hb, he⟩ := bnd_some he
  obtain ⟨vc, hvc, he2⟩ := bnd_some he
  clear he
  cases hfit : fits b.leaf vc with
  | false => simp [hfit] at he2
  | true =>
    simp only [hfit] at he2
    split at he2
    · rename_i hlen
      obtain ⟨hlen, hne⟩ := hlen
      obtain ⟨c, hp, he3⟩ := bnd_some he2
      have he := Option.some.inj he3
      subst he
      have hH : H i = some b := by rw [hrd i (by simp), hb]
      obtain ⟨ha, hu⟩ := rv_ptr hx
      have hcells := RV.cells hy hvc
      obtain ⟨p1, p2, p3, p4⟩ := putr_some hp
      have hsol : b.solid := trivial
      obtain ⟨E, N, h1, h2, h3, h4, h5⟩ := hs.hr.blk i b hH hsol
      have hsz : (a.eval y).cells.size = vc.length := by have := hcells.1; simp at this; omega
      have hrun := run_storeAt_of (P := P) (w := w) (T := T) (v := a.eval y) (g := ι i) (o := o) (fun u hu => by
          obtain ⟨k, hk⟩ := List.mem_iff_getElem?.1 hu
          have hkl : k < vc.length := by have := (List.getElem?_eq_some_iff.1 hk).1; simp at this; omega
          exact (hcells.2 k _ u (List.getElem?_eq_getElem hkl) hk).one) (by omega) (.inl (by omega)) (fun j hj => by
          obtain ⟨u, hu, _⟩ := h5 (o + j) _ (List.getElem?_eq_getElem (by omega))
          exact ⟨by simp [hu], h4 _ (by omega)⟩)
      refine ok_write hs hd (x := .skip) (u := undef) (by simp [execOp, hu, hrun]) (.inr ⟨rfl, rfl⟩) hH hsol (Grow.setCells _ _ _ _) (fun k _ hk => setCells_block _ _ _ _ _ hk)
        ((Grow.setCells _ _ _ w).shape _ _ h1) (fits_put h2 h3 h1 h4 h5 hp hcells fun hl => ?_) rfl (RV.top _)
      have hrv : refs vc = [] := by simpa [fits, hl] using hfit
      exact refs_put hp (hs.hr.leaf i b hH hl) hrv
    · simp at he2

/-! ## Values built of parts -/
theorem setAll (vc : List Value) (off : Nat) : ∀ (k : Nat) (cs : Array Value), off + k + vc.length ≤ cs.size →
    (vc.zipIdx k).foldl (fun cs (p : Value × Nat) => cs.setIfInBounds (off + p.2) p.1) cs = (cs.toList.take (off + k) ++ vc ++ cs.toList.drop (off + k + vc.length)).toArray := by
  induction vc with
  | nil => intro k cs _; simp
  | cons v r ih =>
    intro k cs hl
    simp only [List.length_cons] at hl
    rw [List.zipIdx_cons, List.foldl_cons, ih (k + 1) _ (by simp; omega)]
    apply Array.ext'
    simp only [Array.toList_setIfInBounds, List.length_cons]
    have h1 : off + k < cs.toList.length := by simp; omega
    rw [show off + (k + 1) = off + k + 1 by omega, List.take_set, List.drop_set, if_pos (by omega)]
    have hm : (cs.toList.take (off + k)).length = off + k := by rw [List.length_take]; omega
    rw [List.take_succ_eq_append_getElem h1, List.set_append_right _ _ (by omega), hm, Nat.sub_self, show off + k + 1 + r.length = off + k + (r.length + 1) by omega]
    simp

theorem fill_of {X A} (place : Nat → Option (Nat × Nat)) : ∀ (ps : List (Nat × AV)) (us : List (Nat × Value)) (zc c : List AV) (zs : Array Value), ps.length = us.length →
    (∀ (j : Nat) (p : Nat × AV) (u : Nat × Value), ps[j]? = some p → us[j]? = some u → p.1 = u.1 ∧ RV X A ι w p.2 u.2) → RL (RC X A ι w) zc zs.toList → fillc place zc ps = some c →
    ∃ cs, Instr.fill place zs us = some cs ∧ RL (RC X A ι w) c cs.toList := by
  intro ps
  induction ps with
  | nil =>
    intro us zc c zs hl _ hz hf
    cases us with
    | nil => simp only [fillc, Option.some.injEq] at hf; subst hf; exact ⟨zs, rfl, hz⟩
    | cons => simp at hl
  | cons p r ih =>
    intro us zc c zs hl hp hz hf
    cases us with
    | nil => simp at hl
    | cons u us =>
      obtain ⟨i, v⟩ := p
      obtain ⟨k, u⟩ := u
      obtain ⟨hik, hv⟩ := hp 0 _ _ rfl rfl
      simp only at hik hv
      subst hik
      simp only [fillc] at hf
      obtain ⟨⟨off, size⟩, hpl, hf⟩ := bnd_some hf
      obtain ⟨vc, hvc, hf2⟩ := bnd_some hf
      clear hf
      dsimp only at hf2
      split at hf2
      · rename_i hsz
        obtain ⟨c', hput, hf3⟩ := bnd_some hf2
        have hcells := hv.cells hvc
        have hus : u.cells.size = size := by have := hcells.1; simp at this; omega
        obtain ⟨p1, p2, p3, p4⟩ := putr_some hput
        have hzl := hz.1
        have hfit : off + u.cells.size ≤ zs.size := by simp at hzl; omega
        have hR : RL (RC X A ι w) c' (zs.toList.take off ++ u.cells.toList ++ zs.toList.drop (off + u.cells.size)) := by
          rw [p2, ← List.append_assoc]
          refine ((hz.take off).append hcells).append ?_
          rw [show u.cells.size = vc.length by omega]
          exact hz.drop (off + vc.length)
        obtain ⟨cs, hfill, hcs⟩ := ih us c' c (zs.toList.take off ++ u.cells.toList ++ zs.toList.drop (off + u.cells.size)).toArray (by simpa using hl) (fun j p u hp' hu' => hp (j + 1) p u (by simpa using hp') (by simpa using hu')) (by simpa using hR) hf3
        refine ⟨cs, ?_, hcs⟩
        simp only [Instr.fill, hpl]
        rw [if_neg (by simp [hus]; omega)]
        have := setAll u.cells.toList off 0 zs (by simp; omega)
        simp only [Nat.add_zero, Array.length_toList] at this
        rw [← hfill, ← this]
        congr 1
        rw [← Array.foldl_toList]
        simp
      · simp at hf2
end
end Sh
