/-
The operations that call no function: together.
-/
import Derived.Test.YtkccojijhaajmaaGreatDoorShOps11
set_option linter.unusedSimpArgs false
set_option linter.unusedVariables false
set_option linter.unusedSectionVars false
set_option linter.unusedSimpArgs false
namespace Sh
open Go

section
variable {P : Program} {X0 A : Nat → Prop} {ι : Nat → Nat} {w : World} {H : Nat → Option Blk} {t t' : Fr} {h : Heap} {a : Act} {base : Nat} {e : Eff} {o : Oper}

/-- EVERY OPERATION THAT CALLS NO FUNCTION. -/
theorem ok_eff (hs : SR X0 A ι w H t' a) (hd : ∀ d, o.dst = some d → d < a.tmps.size) (hn : e.new ≠ [] → ¬ A base) (hxs : ∀ x ∈ o.op.operands.toList, XR P X0 A ι w H a t x) (hrd : ∀ i ∈ e.rd, H i = hget h i)
    (he : eff P o t h base = some e) : OK P X0 A ι w H t' a o base e := by
  obtain ⟨dst, op, ty, pos, af, gd⟩ := o
  unfold eff at he
  cases op <;> simp only [reduceCtorEq] at he
  case move x => exact ok_move hs hd (hxs x (by simp [Op.operands])) he
  case assign x => exact ok_assign hs hd (hxs x (by simp [Op.operands])) he
  case pick c x y => exact ok_pick hs hd (hxs c (by simp [Op.operands])) (hxs x (by simp [Op.operands])) (hxs y (by simp [Op.operands])) he
  case alloc T => exact ok_alloc hs hd hn he
  case box T x => exact ok_box hs hd hn (hxs x (by simp [Op.operands])) he
  case nilCheck x => exact ok_nilCheck hs hd (hxs x (by simp [Op.operands])) he
  case fieldAddr S x f => exact ok_fieldAddr hs hd (hxs x (by simp [Op.operands])) he
  case load T x => exact ok_load hs hd (hxs x (by simp [Op.operands])) hrd he
  case store T x y => exact ok_store hs hd (hxs x (by simp [Op.operands])) (hxs y (by simp [Op.operands])) hrd he
  case build T ps => exact ok_build hs hd (fun p hp => hxs p.2 (by simp [Op.operands]; exact ⟨p.1, by simpa using hp⟩)) he
  case buildSlice T n ps => exact ok_buildSlice hs hd hn (fun p hp => hxs p.2 (by simp [Op.operands]; exact ⟨p.1, by simpa using hp⟩)) he
  case makeSlice T x y => exact ok_makeSlice hs hd hn (hxs x (by simp [Op.operands])) (hxs y (by simp [Op.operands])) he
  case extract x i => exact ok_extract hs hd (hxs x (by simp [Op.operands])) he
  case field S x f => exact ok_field hs hd (hxs x (by simp [Op.operands])) he
  case index S x i => exact ok_index hs hd (hxs x (by simp [Op.operands])) (hxs i (by simp [Op.operands])) he
  case indexAddr S x i => exact ok_indexAddr hs hd (hxs x (by simp [Op.operands])) (hxs i (by simp [Op.operands])) he
  case binOp op T x y z => exact ok_binOp hs hd (hxs x (by simp [Op.operands])) (hxs y (by simp [Op.operands])) he
  case unOp op T x => exact ok_unOp hs hd (hxs x (by simp [Op.operands])) he
  case convert S T x => exact ok_convert hs hd hn (hxs x (by simp [Op.operands])) hrd he
  case slice S x lo hi m =>
    cases m with
    | some m => cases he
    | none => exact ok_slice hs hd (hxs x (by simp [Op.operands])) (fun y hy => hxs y (by subst hy; simp [Op.operands])) (fun y hy => hxs y (by subst hy; simp [Op.operands])) hrd he
  case call c =>
    obtain ⟨callee, args, at_⟩ := c
    cases callee <;> simp only [reduceCtorEq] at he
    rename_i b
    cases b <;> simp only [reduceCtorEq] at he
    case len =>
      split at he
      · rename_i x hx
        split at he
        · rename_i T hT
          obtain rfl : args = #[x] := by rw [← Array.toArray_toList (xs := args), hx]
          obtain rfl : at_ = #[T] := by rw [← Array.toArray_toList (xs := at_), hT]
          exact ok_len hs hd (hxs x (by simp [Op.operands, Call.operands])) (by simp) he
        · cases he
      · cases he
    case append =>
      split at he
      · rename_i x y hx
        split at he
        · rename_i T U hT
          obtain rfl : args = #[x, y] := by rw [← Array.toArray_toList (xs := args), hx]
          obtain rfl : at_ = #[T, U] := by rw [← Array.toArray_toList (xs := at_), hT]
          exact ok_append hs hd hn (hxs x (by simp [Op.operands, Call.operands])) (hxs y (by simp [Op.operands, Call.operands])) hrd he
        · cases he
      · cases he
    case copy =>
      split at he
      · rename_i x y hx
        split at he
        · rename_i T U hT
          obtain rfl : args = #[x, y] := by rw [← Array.toArray_toList (xs := args), hx]
          obtain rfl : at_ = #[T, U] := by rw [← Array.toArray_toList (xs := at_), hT]
          exact ok_copy hs hd (hxs x (by simp [Op.operands, Call.operands])) (hxs y (by simp [Op.operands, Call.operands])) hrd he
        · cases he
      · cases he
    case max =>
      have ha : ∃ x y, args = #[x, y] := by
        cases hl : args.toList with
        | nil => simp [hl] at he
        | cons x r =>
          cases r with
          | nil => cases hv : opv t x <;> simp [hl, hv] at he
          | cons y r =>
            cases r with
            | nil => exact ⟨x, y, by rw [← Array.toArray_toList (xs := args), hl]⟩
            | cons z r => cases hv : opv t x <;> cases hv2 : opv t y <;> simp [hl, hv, hv2] at he
      obtain ⟨x, y, rfl⟩ := ha
      exact ok_max hs hd (hxs x (by simp [Op.operands, Call.operands])) (hxs y (by simp [Op.operands, Call.operands])) he
    case min =>
      have ha : ∃ x y, args = #[x, y] := by
        cases hl : args.toList with
        | nil => simp [hl] at he
        | cons x r =>
          cases r with
          | nil => cases hv : opv t x <;> simp [hl, hv] at he
          | cons y r =>
            cases r with
            | nil => exact ⟨x, y, by rw [← Array.toArray_toList (xs := args), hl]⟩
            | cons z r => cases hv : opv t x <;> cases hv2 : opv t y <;> simp [hl, hv, hv2] at he
      obtain ⟨x, y, rfl⟩ := ha
      exact ok_min hs hd (hxs x (by simp [Op.operands, Call.operands])) (hxs y (by simp [Op.operands, Call.operands])) he
end
end Sh
