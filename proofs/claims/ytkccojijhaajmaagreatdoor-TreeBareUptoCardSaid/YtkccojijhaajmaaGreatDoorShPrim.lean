/-
Functions that are given by what they compute: strings.Builder's copyCheck and String, bytealg's IndexByteString.
-/
import Derived.Test.YtkccojijhaajmaaGreatDoorShSound
import Derived.Test.YtkccojijhaajmaaGreatDoorShU
import Derived.Lib.Bytealg
import Derived.Laws.Externs
set_option linter.unusedSimpArgs false
set_option linter.unusedVariables false
set_option linter.unusedSectionVars false
set_option maxRecDepth 100000
namespace Sh
open Go

/-- A block is given up, and what it stood for may change. -/
theorem HR.retire {X0 A : Nat → Prop} {ι : Nat → Nat} {w w' : World} {H : Nat → Option Blk} {i : Nat} {b0 : Blk} (h : HR X0 A ι w H) (h0 : H i = some b0) (hg : Grow w w')
    (hb : ∀ k, k < w.heap.size → k ≠ ι i → w'.heap[k]? = w.heap[k]?) : HR X0 A ι w' (Sh.kill H i) ∧ Chg A ι w H A ι w' (Sh.kill H i) := by
  have hne : ∀ k, k < w.heap.size → ¬ XL X0 ι H k → w'.heap[k]? = w.heap[k]? := fun k hk hx => hb k hk (fun e => hx (.inr ⟨i, b0, h0, trivial, e.symm⟩))
  refine ⟨⟨fun j b hj hs => ?_, fun i j bi bj hi hj => h.inj i j bi bj (kill_some hi).1 (kill_some hj).1, fun i b hi => h.own i b (kill_some hi).1, fun i b hi => h.leaf i b (kill_some hi).1,
    fun i b hi => h.num i b (kill_some hi).1, fun i b T hi ht => ?_, fun g hX => Nat.lt_of_lt_of_le (h.lt g hX) hg.size⟩,
    ⟨hg, fun g hgl hn => hb g hgl (fun e => hn i b0 h0 trivial e.symm), fun _ h => ⟨h, rfl⟩, fun j b hj hs => .inr ⟨j, b, (kill_some hj).1, hs, rfl⟩⟩⟩
  · obtain ⟨hj', hji⟩ := kill_some hj
    obtain ⟨E, N, h1, h2, h3, h4, h5⟩ := h.blk j b hj' hs
    have hnj : ι j ≠ ι i := fun e => hji (h.inj j i b b0 hj' h0 hs trivial e)
    have hl := shape_lt h1
    refine ⟨E, N, hg.shape _ _ h1, h2, h3, fun k hk => by rw [frozen_of_block (hb _ hl hnj)]; exact h4 k hk, fun k a ha => ?_⟩
    obtain ⟨u, hu, hr⟩ := h5 k a ha
    exact ⟨u, by rw [cell_of_block (hb _ hl hnj)]; exact hu, hr.mono (fun _ _ => xl_kill) hne hg (fun _ h => ⟨h, rfl⟩)⟩
  · obtain ⟨N, hN⟩ := h.typ i b T (kill_some hi).1 ht
    exact ⟨N, hg.shape _ _ hN⟩

theorem freeze_shape (w : World) (a : Addr) (n g : Nat) : (w.freeze a n).shape? g = w.shape? g := by
  unfold World.freeze
  by_cases hn : n = 0
  · rw [if_pos hn]
  · rw [if_neg hn]
    unfold World.shape?
    simp only [Array.getElem?_modify]
    by_cases h : a.block = g
    · rw [if_pos h]
      cases w.heap[g]? with
      | none => rfl
      | some o => cases o <;> rfl
    · rw [if_neg h]
theorem freeze_block (w : World) (a : Addr) (n g : Nat) (h : g ≠ a.block) : (w.freeze a n).heap[g]? = w.heap[g]? := by
  unfold World.freeze
  split
  · rfl
  · simp only [Array.getElem?_modify, if_neg (Ne.symm h)]
theorem Grow.freeze (w : World) (a : Addr) (n : Nat) : Grow w (w.freeze a n) := by
  refine ⟨?_, ?_, ?_, ?_, fun g s h => by rw [freeze_shape]; exact h⟩ <;> (unfold World.freeze; split) <;> simp

/-- strings.Builder's copyCheck, of a builder that is the first of a T's cells -/
def copyCheckP (T : TypeId) (args : List AV) (h : Heap) : Res :=
  match args with
  | [.ptr i 0] =>
    match hget h i with
    | some ⟨[.nilp, b], false, false, some T'⟩ => if T' = T then some (.tup [], h.set i (some ⟨[.ptr i 0, b], false, false, some T'⟩)) else none
    | some ⟨[.ptr j 0, _], _, _, _⟩ => if j = i then some (.tup [], h) else none
    | _ => none
  | _ => none

def byteOf : AV → Option UInt8
  | .int .u8 k => if 0 ≤ k ∧ k < 256 then some k.toNat.toUInt8 else none
  | _ => none

/-- strings.Builder's String -/
def bstringP (B : TypeId) (args : List AV) (h : Heap) : Res :=
  match args with
  | [.ptr i 0] =>
    match hget h i with
    | some ⟨[_, .nils], _, _, _⟩ => some (.str [], h)
    | some ⟨[_, .lsl j 0 n _ 1], _, _, _⟩ =>
      match hget h j with
      | some ⟨c, _, _, some B'⟩ => if B' = B ∧ 0 < n ∧ n ≤ 4611686018427387904 ∧ n ≤ c.length then (mapO byteOf (c.take n)).bnd fun l => some (.str l, h.set j none) else none
      | _ => none
    | _ => none
  | _ => none

def indexByteP (args : List AV) (h : Heap) : Res :=
  match args with
  | [.str l, .int .u8 k] => some (.int .i64 (Lib.indexByte l k.toNat.toUInt8), h)
  | _ => none
end Sh
