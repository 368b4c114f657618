/-
  DERIVED. GIVEN WITH THE SEED: THE CARDS: each row of YteplbljjlbdhaaaGreatDoorRows.lean that lists a variable, with what it lists TIED to the program's text (the seventh form; the later family's looks); each row that meets fmt, with fmt's text TOLD by the authors' own Lean function (tested against real Go, not proved from fmt's source: count such statements apart). THE CARD IS WHAT COUNTS. Prove the row's statement (the work); the ties are given (YteplbljjlbdhaaaGreatDoorTie.lean); close each card by the builder's one call (the guide's Derived/Test/ToyasCard.lean, 'card_holds'). Laid BY PROGRAM, IN A SANDBOX (cutbox-door.mjs). By AI agents, Wed Nov 11 2026. No macro, syntax, notation, axiom, sorry.
-/
import Derived.Test.YteplbljjlbdhaaaGreatDoorRows
import GoSem.ClaimSeven
namespace Go.Proofs.YteplbljjlbdhaaaGreatDoor
namespace Rows

/-- THE TIED CARD OF 'farrierlaw16.FilesNames'. -/
def filesNamesCard : Claim7 := { stood := { row := filesNamesRow, standIns := [], harness := (true, "5ee8bbcc88fc5040ba95f12829fc1c924ff13d0c77c1bf256a11fef0314f16a6"), looks := true }, kinds := [], alts := [], laidByText := true, laidKinds := [.data, .pinned], laidTests := true, laidLooks := .later }
def FilesNamesCardSaid : Prop := Claim7.holds Tryz.pinned (.plain (OpenSpec.ofChange filesNamesSpec)) filesNamesCard

/-- THE SECOND FORM's CARD OF 'farrierlaw16.FilesNames'. -/
def filesNamesUptoCard : Claim7 := { stood := { row := filesNamesUptoRow, standIns := [], harness := (true, "5ee8bbcc88fc5040ba95f12829fc1c924ff13d0c77c1bf256a11fef0314f16a6"), looks := true }, kinds := [], alts := [], laidByText := true, laidKinds := [.data, .pinned], laidTests := true, laidLooks := .later }
def FilesNamesUptoCardSaid : Prop := Claim7.holds Tryz.pinned (.plain (OpenSpec.upto filesNamesSpec)) filesNamesUptoCard
end Rows
end Go.Proofs.YteplbljjlbdhaaaGreatDoor
