/-
  DERIVED. GIVEN WITH THE SEED: THE CARDS: each row of YtkccojijhaajmaaGreatDoorRows.lean that lists a variable, with what it lists TIED to the program's text (the seventh form; the later family's looks); each row that meets fmt, with fmt's text TOLD by the authors' own Lean function (tested against real Go, not proved from fmt's source: count such statements apart). THE CARD IS WHAT COUNTS. Prove the row's statement (the work); the ties are given (YtkccojijhaajmaaGreatDoorTie.lean); close each card by the builder's one call (the guide's Derived/Test/ToyasCard.lean, 'card_holds'). Laid BY PROGRAM, IN A SANDBOX (cutbox-door.mjs). By AI agents, Wed Nov 11 2026. No macro, syntax, notation, axiom, sorry.
-/
import Derived.Test.YtkccojijhaajmaaGreatDoorRows
import GoSem.ClaimSeven
namespace Go.Proofs.YtkccojijhaajmaaGreatDoor
namespace Rows

/-- THE TIED CARD OF 'shallotlaw22.TreeOpens'. -/
def treeOpensCard : Claim7 := { stood := { row := treeOpensRow, standIns := [], harness := (true, "8ce3b774a02639e2530430a2daa7962bcc3a94af2143edcbc6152181cb630a0e"), looks := false }, kinds := [], alts := [], laidByText := true, laidKinds := [.data, .data, .data], laidTests := true, laidLooks := .later }
def TreeOpensCardSaid : Prop := Claim7.holds Tryz.pinned (.plain (OpenSpec.ofChange treeOpensSpec)) treeOpensCard

/-- THE TIED CARD OF 'shallotlaw22.TreeBare'. -/
def treeBareCard : Claim7 := { stood := { row := treeBareRow, standIns := [], harness := (true, "8ce3b774a02639e2530430a2daa7962bcc3a94af2143edcbc6152181cb630a0e"), looks := false }, kinds := [], alts := [], laidByText := true, laidKinds := [.data, .data, .data], laidTests := true, laidLooks := .later }
def TreeBareCardSaid : Prop := Claim7.holds Tryz.pinned (.plain (OpenSpec.ofChange treeBareSpec)) treeBareCard

/-- THE SECOND FORM's CARD OF 'shallotlaw22.TreeOpens'. -/
def treeOpensUptoCard : Claim7 := { stood := { row := treeOpensUptoRow, standIns := [], harness := (true, "8ce3b774a02639e2530430a2daa7962bcc3a94af2143edcbc6152181cb630a0e"), looks := false }, kinds := [], alts := [], laidByText := true, laidKinds := [.data, .data, .data], laidTests := true, laidLooks := .later }
def TreeOpensUptoCardSaid : Prop := Claim7.holds Tryz.pinned (.plain (OpenSpec.upto treeOpensSpec)) treeOpensUptoCard

/-- THE SECOND FORM's CARD OF 'shallotlaw22.TreeBare'. -/
def treeBareUptoCard : Claim7 := { stood := { row := treeBareUptoRow, standIns := [], harness := (true, "8ce3b774a02639e2530430a2daa7962bcc3a94af2143edcbc6152181cb630a0e"), looks := false }, kinds := [], alts := [], laidByText := true, laidKinds := [.data, .data, .data], laidTests := true, laidLooks := .later }
def TreeBareUptoCardSaid : Prop := Claim7.holds Tryz.pinned (.plain (OpenSpec.upto treeBareSpec)) treeBareUptoCard
end Rows
end Go.Proofs.YtkccojijhaajmaaGreatDoor
