/-
Closed facts of a program that the rows ask.
-/
import Derived.Test.YtkccojijhaajmaaGreatDoorShArg2
set_option linter.unusedSimpArgs false
set_option linter.unusedVariables false
set_option linter.unusedSectionVars false
namespace Sh
open Go

def fnOK (fn : Func) : Bool := match fn.body with | none => true | some c => dstOK fn.ntmps c && fn.name != "runtime.NumGoroutine"

/-- the closed test of 'Closes', for a list of types -/
def closesB (P : Program) (l : List TypeId) : Bool := l.all fun t => match P.underlying t with
  | some (.slice e) => P.cellsOf e != 0 && l.contains e
  | some (.pointer e) => l.contains e
  | some (.struct fs) => fs.toList.all fun f => l.contains f.type
  | some (.array _ e) => l.contains e
  | some (.map _ e) => l.contains e
  | _ => true

theorem closes_of {P : Program} {l : List TypeId} (h : closesB P l = true) : Closes P (fun t => l.contains t) := by
  intro t ht
  have := List.all_eq_true.1 h t (by simpa using ht)
  cases hu : P.underlying t with
  | none => trivial
  | some d =>
    rw [hu] at this
    cases d <;> first | trivial | exact this | skip
    · simpa using this
    · exact fun f hf => List.all_eq_true.1 this f hf

theorem dst_of {P : Program} (h : P.funcs.all fnOK = true) (f : Nat) (fn : Func) (c : Code) (hf : P.funcs[f]? = some fn) (hb : fn.body = some c) : dstOK fn.ntmps c = true ∧ fn.name ≠ "runtime.NumGoroutine" := by
  have := Array.all_eq_true_iff_forall_mem.1 h fn (Array.mem_of_getElem? hf)
  unfold fnOK at this
  rw [hb] at this
  simpa using this
end Sh
