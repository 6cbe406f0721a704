/-
Proved: TreeBare returns true and leaves its argument as it was, at every source tree of bulk at most 1048576, where the three listed package tables hold what the program lays in them (the tied card).
-/
import Derived.Test.YtkccojijhaajmaaGreatDoorCards
import Derived.Test.YtkccojijhaajmaaGreatDoorTie
import Derived.WalkKit
import Derived.ProofKit
import Derived.OpenShut
import Derived.Lay
import Derived.Deep.DeepHandedRow
import Derived.Test.YtkccojijhaajmaaGreatDoorTB11
import Derived.Test.YtkccojijhaajmaaGreatDoorTBr
import Derived.Test.YtkccojijhaajmaaGreatDoorT1OK
set_option linter.unusedSimpArgs false
set_option linter.unusedVariables false
set_option linter.unusedSectionVars false
set_option maxRecDepth 1000000
namespace Go.Proofs.YtkccojijhaajmaaGreatDoor.treeBare
open Go Go.ChangeShapes Go.WideShapes Go.ChangeAt Go.RowKit

theorem own : ownKnob Tryz.prog.godebug = none := by kernel_rfl

mutual
theorem bulk_le {H : Type} : ∀ d : DataW H, Sh.bulkD d ≤ Rows.uptoBulk d
  | .lit l => by cases l <;> simp [Sh.bulkD, Rows.uptoBulk]
  | .nil => by simp [Sh.bulkD, Rows.uptoBulk]
  | .ptr d => by simp only [Sh.bulkD, Rows.uptoBulk]; omega
  | .slice es sp => by
    have h1 := bulkA_le es
    have h2 := bulkA_le sp
    simp only [Sh.bulkD, Rows.uptoBulk]; omega
  | .agg ps => by
    have h1 := bulkA_le ps
    simp only [Sh.bulkD, Rows.uptoBulk]; omega
  | .iface _ d => by simp only [Sh.bulkD, Rows.uptoBulk]; omega
  | .map _ => by simp only [Sh.bulkD, Rows.uptoBulk]; omega
  | .held _ => by simp [Sh.bulkD, Rows.uptoBulk]
theorem bulkA_le {H : Type} : ∀ l : List (DataW H), Sh.bulkA l ≤ Rows.uptoBulkAll l
  | [] => Nat.le_refl _
  | d :: r => by
    have h1 := bulk_le d
    have h2 := bulkA_le r
    simp only [Sh.bulkA, Rows.uptoBulkAll]; omega
end

def reached : List TypeId := [2, 3, 9, 23, 24, 26, 44, 45, 47, 48, 50, 60, 62, 69]
theorem closes : Sh.Closes Tryz.prog (fun t => reached.contains t) := Sh.closes_of (l := reached) (by kernel_rfl)

theorem contract (H : Type) (enc : TypeId × Value → H) (W : World) (base : Nat) (args : Array Value) (ds gs : List (DataW H)) (before : List MemPlace)
    (hval : ∀ (j : Nat) t v, Tryz.f4.params[j]? = some t → args[j]? = some v → Value.okWide Tryz.prog W .any base t v)
    (hW : DataW.Whole enc Tryz.prog Tryz.f4.params.toList Rows.treeBareSpec.vars false W args.toList ds gs before)
    (hk : Rows.uptoSmall H (ds ++ gs) = true) :
    Calls Tryz.prog 4 args W fun e W' => ∃ v, e = .returned v ∧ Rows.treeBareSpec.post enc Tryz.prog Tryz.f4 false true false false W args v W' := by
  have hW' := hW
  obtain ⟨p, q, hA0, hV, rfl, hfz, hnd⟩ := hW
  have hA : DataW.TrodAll enc Tryz.prog W 0 (fun _ => true) true Tryz.f4.params.toList args.toList ds p := hA0
  rw [Tryz.params4] at hA
  obtain ⟨v0, vs0, d0, ds0, p0, q0, hargs, rfl, rfl, h0, r0⟩ := trodAll_cons hA
  obtain ⟨rfl, rfl, rfl⟩ := trodAll_nil r0
  obtain ⟨rfl, rfl⟩ := trodVars_none hV
  obtain ⟨n, hn⟩ := h0
  obtain ⟨s, ha, hf, hb⟩ := Sh.rd_source n _ d0 p0 hn
  have hsm : s.bulk ≤ 1048576 := by
    have h1 := of_decide_eq_true hk
    simp only [List.append_nil, Rows.uptoBulkAll] at h1
    have h2 := bulk_le d0
    omega
  have hspec := Sh.TreeBare_spec s (by omega) hf (Sh.Source.prt_len s hf (by omega))
  refine Sh.law_contract (cx := Sh.cx) Sh.cxOK (S := fun t => reached.contains t) closes (fn := Tryz.f4) (s := Rows.treeBareSpec) (T := 4) (m := n) («as» := [.agg s.cells]) (hh := []) (r := .any) (base := base)
    ?_ Tryz.func4 (by kernel_rfl) (by kernel_rfl) (by kernel_rfl) rfl rfl hval hW' ?_ hspec
  · intro t ht
    rw [Tryz.params4] at ht
    simp only [List.mem_cons, List.not_mem_nil, or_false] at ht
    subst ht
    decide
  · rw [Tryz.params4]
    show Sh.avArgs Tryz.prog n [26] [d0] = some [.agg s.cells]
    have hu : ∃ fs, Tryz.prog.underlying 26 = some (.struct fs) := by
      have h := Sh.fo_26
      unfold Sh.fieldsOf at h
      split at h
      · exact ⟨_, by assumption⟩
      · cases h
    obtain ⟨fs, hu⟩ := hu
    simp [Sh.avArgs, Sh.avArg, ha, hu]

noncomputable def laidWorld (os : Os) : World := World.laidAll Tryz.prog os Rows.treeBareUptoRow.laid
def witness : Array Value := #[.agg #[.slice none 0 0, .slice none 0 0]]
theorem laid_met (os : Os) : laidMet Tryz.prog Rows.treeBareUptoRow.laid ((laidWorld os).forCall (fun _ _ => 0) ⟨#[], witness, []⟩).memory :=
  laidMet_laidAll _ (by kernel_rfl) (by kernel_rfl)
theorem reads (os : Os) {H : Type} (enc : TypeId × Value → H) : ∃ places, DataW.whole enc Tryz.prog ((laidWorld os).forCall (fun _ _ => 0) ⟨#[], witness, []⟩).memory Tryz.f4.params.toList Rows.treeBareSpec.vars false witness.toList 8 = some ([.agg [.nil, .nil]], [], places) :=
  ⟨[], by kernel_rfl⟩

theorem liftedUpto (os : Os) (started : os.Started) (H : Type) (enc : TypeId × Value → H) (F : Stop.Interp) :
    ReturnsInHanded {} Tryz.checked os 4 .any ((Rows.OpenSpec.upto Rows.treeBareSpec).preRow enc Tryz.prog Tryz.f4 Rows.treeBareUptoRow.domain false Rows.treeBareUptoRow.laid) (((Rows.OpenSpec.upto Rows.treeBareSpec).at F).post enc Tryz.prog Tryz.f4 false true false false) := by
  obtain ⟨places, hx⟩ := reads os enc
  refine returnsInHanded_of_row (C := Tryz.checked) (s := Rows.OpenSpec.upto Rows.treeBareSpec) own started (by kernel_rfl) Tryz.func4
    (witness_row_at (enc := enc) (C := Tryz.checked) false (laidWorld os) witness (World.laidAll_os _ _ _) (by kernel_rfl) (by kernel_rfl) (by kernel_rfl)
      (OpenSpec.preRow_of_cond 8 hx (by kernel_rfl) (fun k hk => by cases hk; kernel_rfl) (by kernel_rfl) (laid_met os))) ?_
  intro W base args ds gs before hval hW _ hcond _ hL _ _
  exact contract H enc W base args ds gs before hval hW (hcond _ rfl)

theorem saidUpto : Rows.TreeBareUptoSaid :=
  OpenClaim.holds_of_cond 4 Tryz.f4 rfl rfl rfl rfl rfl rfl rfl ⟨rfl, rfl, rfl, rfl, rfl⟩ rfl rfl rfl rfl rfl (by kernel_rfl) Tryz.func4 (by kernel_rfl)
    (of_decide_eq_true (by kernel_rfl)) (by unfold Func.isWrapper; first | (rw [if_pos (by decide +kernel)]; kernel_rfl) | (rw [if_neg (by decide +kernel)]; exact ⟨rfl, rfl⟩))
    (fun os started H enc _ F => by rw [OpenClaim.pre_eq_preRow]; exact liftedUpto os started H enc F)

theorem plain (f : FuncId) (fn : Func) (hf : Tryz.pinned.checked.prog.funcNamed "shallot/shallotlaw22.TreeBare" = some f) (hfn : Tryz.pinned.checked.prog.funcs[f]? = some fn) :
    false = Tryz.pinned.checked.prog.looks [] ∧ ∀ (j : Nat) t, fn.params[j]? = some t → Tryz.pinned.checked.prog.wantsStandIn t = false := by
  obtain rfl : f = 4 := Option.some.inj ((show Tryz.prog.funcNamed "shallot/shallotlaw22.TreeBare" = some 4 by kernel_rfl).symm.trans hf) |>.symm
  obtain rfl : fn = Tryz.f4 := (Option.some.inj (Tryz.func4.symm.trans hfn)).symm
  refine ⟨by kernel_rfl, fun j t ht => ?_⟩
  rw [Tryz.params4] at ht
  obtain rfl : t = 26 := by simpa using Array.mem_of_getElem? ht
  exact (show Tryz.prog.wantsStandIn 26 = false by kernel_rfl)

theorem cardUpto : Rows.TreeBareUptoCardSaid :=
  Claim7.holds_tied_plain_at .later [] _ _ _ _ saidUpto (fun _ h => by cases h) (by kernel_rfl) (fun _ h => by cases h) treeBareUpto_row_tie rfl ⟨rfl, rfl⟩ (by kernel_rfl) rfl plain (by kernel_rfl)
end Go.Proofs.YtkccojijhaajmaaGreatDoor.treeBare
