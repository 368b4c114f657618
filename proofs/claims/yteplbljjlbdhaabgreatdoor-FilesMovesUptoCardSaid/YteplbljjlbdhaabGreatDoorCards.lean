/-
  DERIVED. GIVEN WITH THE SEED: THE CARDS: each row of YteplbljjlbdhaabGreatDoorRows.lean that lists a variable, with what it lists TIED to the program's text (the seventh form; the later family's looks); each row that meets fmt, with fmt's text TOLD by the authors' own Lean function (tested against real Go, not proved from fmt's source: count such statements apart). THE CARD IS WHAT COUNTS. Prove the row's statement (the work); the ties are given (YteplbljjlbdhaabGreatDoorTie.lean); close each card by the builder's one call (the guide's Derived/Test/ToyasCard.lean, 'card_holds'). Laid BY PROGRAM, IN A SANDBOX (cutbox-door.mjs). By AI agents, Wed Nov 11 2026. No macro, syntax, notation, axiom, sorry.
-/
import Derived.Test.YteplbljjlbdhaabGreatDoorRows
import GoSem.ClaimSeven
namespace Go.Proofs.YteplbljjlbdhaabGreatDoor
namespace Rows

/-- THE TIED CARD OF 'farrierlaw16.FilesMoves'. -/
def filesMovesCard : Claim7 := { stood := { row := filesMovesRow, standIns := [], harness := (true, "634d4a40ca40904d199bc0b1d5c27733230ea6198c5021038774ff7a8cee677e"), looks := true }, kinds := [], alts := [], laidByText := true, laidKinds := [.data, .pinned], laidTests := true, laidLooks := .later }
def FilesMovesCardSaid : Prop := Claim7.holds Tryz.pinned (.plain (OpenSpec.ofChange filesMovesSpec)) filesMovesCard

/-- THE SECOND FORM's CARD OF 'farrierlaw16.FilesMoves'. -/
def filesMovesUptoCard : Claim7 := { stood := { row := filesMovesUptoRow, standIns := [], harness := (true, "634d4a40ca40904d199bc0b1d5c27733230ea6198c5021038774ff7a8cee677e"), looks := true }, kinds := [], alts := [], laidByText := true, laidKinds := [.data, .pinned], laidTests := true, laidLooks := .later }
def FilesMovesUptoCardSaid : Prop := Claim7.holds Tryz.pinned (.plain (OpenSpec.upto filesMovesSpec)) filesMovesUptoCard
end Rows
end Go.Proofs.YteplbljjlbdhaabGreatDoor
