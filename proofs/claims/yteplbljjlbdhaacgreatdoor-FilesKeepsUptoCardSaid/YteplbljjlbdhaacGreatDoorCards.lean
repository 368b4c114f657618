/-
  DERIVED. GIVEN WITH THE SEED: THE CARDS: each row of YteplbljjlbdhaacGreatDoorRows.lean that lists a variable, with what it lists TIED to the program's text (the seventh form; the later family's looks); each row that meets fmt, with fmt's text TOLD by the authors' own Lean function (tested against real Go, not proved from fmt's source: count such statements apart). THE CARD IS WHAT COUNTS. Prove the row's statement (the work); the ties are given (YteplbljjlbdhaacGreatDoorTie.lean); close each card by the builder's one call (the guide's Derived/Test/ToyasCard.lean, 'card_holds'). Laid BY PROGRAM, IN A SANDBOX (cutbox-door.mjs). By AI agents, Wed Nov 11 2026. No macro, syntax, notation, axiom, sorry.
-/
import Derived.Test.YteplbljjlbdhaacGreatDoorRows
import GoSem.ClaimSeven
namespace Go.Proofs.YteplbljjlbdhaacGreatDoor
namespace Rows

/-- THE TIED CARD OF 'farrierlaw16.FilesKeeps'. -/
def filesKeepsCard : Claim7 := { stood := { row := filesKeepsRow, standIns := [], harness := (true, "80d2037151c937cbb1d5b7d19b0d4aacb9c7d4da7eec5ea998e16f1b3d9795be"), looks := true }, kinds := [], alts := [], laidByText := true, laidKinds := [.data, .pinned], laidTests := true, laidLooks := .later }
def FilesKeepsCardSaid : Prop := Claim7.holds Tryz.pinned (.plain (OpenSpec.ofChange filesKeepsSpec)) filesKeepsCard

/-- THE SECOND FORM's CARD OF 'farrierlaw16.FilesKeeps'. -/
def filesKeepsUptoCard : Claim7 := { stood := { row := filesKeepsUptoRow, standIns := [], harness := (true, "80d2037151c937cbb1d5b7d19b0d4aacb9c7d4da7eec5ea998e16f1b3d9795be"), looks := true }, kinds := [], alts := [], laidByText := true, laidKinds := [.data, .pinned], laidTests := true, laidLooks := .later }
def FilesKeepsUptoCardSaid : Prop := Claim7.holds Tryz.pinned (.plain (OpenSpec.upto filesKeepsSpec)) filesKeepsUptoCard
end Rows
end Go.Proofs.YteplbljjlbdhaacGreatDoor
