/-
  DERIVED. GIVEN WITH THE SEED: THE CARDS: each row of YtncdfaocemfgfaaGreatDoorRows.lean that lists a variable, with what it lists TIED to the program's text (the seventh form; the later family's looks); each row that meets fmt, with fmt's text TOLD by the authors' own Lean function (tested against real Go, not proved from fmt's source: count such statements apart). THE CARD IS WHAT COUNTS. Prove the row's statement (the work); the ties are given (YtncdfaocemfgfaaGreatDoorTie.lean); close each card by the builder's one call (the guide's Derived/Test/ToyasCard.lean, 'card_holds'). Laid BY PROGRAM, IN A SANDBOX (cutbox-door.mjs). By AI agents, Wed Nov 11 2026. No macro, syntax, notation, axiom, sorry.
-/
import Derived.Test.YtncdfaocemfgfaaGreatDoorRows
import GoSem.ClaimSeven
namespace Go.Proofs.YtncdfaocemfgfaaGreatDoor
namespace Rows

/-- THE TIED CARD OF 'farrierlaw16.FilesBytes'. -/
def filesBytesCard : Claim7 := { stood := { row := filesBytesRow, standIns := [], harness := (true, "d2575807aabc15c29a1f0d26ef94a4190103096845869275317387507051989a"), looks := true }, kinds := [], alts := [], laidByText := true, laidKinds := [.data, .pinned], laidTests := true, laidLooks := .later }
def FilesBytesCardSaid : Prop := Claim7.holds Tryz.pinned (.plain (OpenSpec.ofChange filesBytesSpec)) filesBytesCard

/-- THE TIED CARD OF 'farrierlaw16.FilesNone'. -/
def filesNoneCard : Claim7 := { stood := { row := filesNoneRow, standIns := [], harness := (true, "d2575807aabc15c29a1f0d26ef94a4190103096845869275317387507051989a"), looks := true }, kinds := [], alts := [], laidByText := true, laidKinds := [.data, .pinned], laidTests := true, laidLooks := .later }
def FilesNoneCardSaid : Prop := Claim7.holds Tryz.pinned (.plain (OpenSpec.ofChange filesNoneSpec)) filesNoneCard

/-- THE TIED CARD OF 'farrierlaw16.FilesNames'. -/
def filesNamesCard : Claim7 := { stood := { row := filesNamesRow, standIns := [], harness := (true, "d2575807aabc15c29a1f0d26ef94a4190103096845869275317387507051989a"), looks := true }, kinds := [], alts := [], laidByText := true, laidKinds := [.data, .pinned], laidTests := true, laidLooks := .later }
def FilesNamesCardSaid : Prop := Claim7.holds Tryz.pinned (.plain (OpenSpec.ofChange filesNamesSpec)) filesNamesCard

/-- THE TIED CARD OF 'farrierlaw16.FilesMoves'. -/
def filesMovesCard : Claim7 := { stood := { row := filesMovesRow, standIns := [], harness := (true, "d2575807aabc15c29a1f0d26ef94a4190103096845869275317387507051989a"), looks := true }, kinds := [], alts := [], laidByText := true, laidKinds := [.data, .pinned], laidTests := true, laidLooks := .later }
def FilesMovesCardSaid : Prop := Claim7.holds Tryz.pinned (.plain (OpenSpec.ofChange filesMovesSpec)) filesMovesCard

/-- THE TIED CARD OF 'farrierlaw16.FilesKeeps'. -/
def filesKeepsCard : Claim7 := { stood := { row := filesKeepsRow, standIns := [], harness := (true, "d2575807aabc15c29a1f0d26ef94a4190103096845869275317387507051989a"), looks := true }, kinds := [], alts := [], laidByText := true, laidKinds := [.data, .pinned], laidTests := true, laidLooks := .later }
def FilesKeepsCardSaid : Prop := Claim7.holds Tryz.pinned (.plain (OpenSpec.ofChange filesKeepsSpec)) filesKeepsCard

/-- THE SECOND FORM's CARD OF 'farrierlaw16.FilesBytes'. -/
def filesBytesUptoCard : Claim7 := { stood := { row := filesBytesUptoRow, standIns := [], harness := (true, "d2575807aabc15c29a1f0d26ef94a4190103096845869275317387507051989a"), looks := true }, kinds := [], alts := [], laidByText := true, laidKinds := [.data, .pinned], laidTests := true, laidLooks := .later }
def FilesBytesUptoCardSaid : Prop := Claim7.holds Tryz.pinned (.plain (OpenSpec.upto filesBytesSpec)) filesBytesUptoCard

/-- THE SECOND FORM's CARD OF 'farrierlaw16.FilesNone'. -/
def filesNoneUptoCard : Claim7 := { stood := { row := filesNoneUptoRow, standIns := [], harness := (true, "d2575807aabc15c29a1f0d26ef94a4190103096845869275317387507051989a"), looks := true }, kinds := [], alts := [], laidByText := true, laidKinds := [.data, .pinned], laidTests := true, laidLooks := .later }
def FilesNoneUptoCardSaid : Prop := Claim7.holds Tryz.pinned (.plain (OpenSpec.upto filesNoneSpec)) filesNoneUptoCard

/-- THE SECOND FORM's CARD OF 'farrierlaw16.FilesNames'. -/
def filesNamesUptoCard : Claim7 := { stood := { row := filesNamesUptoRow, standIns := [], harness := (true, "d2575807aabc15c29a1f0d26ef94a4190103096845869275317387507051989a"), looks := true }, kinds := [], alts := [], laidByText := true, laidKinds := [.data, .pinned], laidTests := true, laidLooks := .later }
def FilesNamesUptoCardSaid : Prop := Claim7.holds Tryz.pinned (.plain (OpenSpec.upto filesNamesSpec)) filesNamesUptoCard

/-- THE SECOND FORM's CARD OF 'farrierlaw16.FilesMoves'. -/
def filesMovesUptoCard : Claim7 := { stood := { row := filesMovesUptoRow, standIns := [], harness := (true, "d2575807aabc15c29a1f0d26ef94a4190103096845869275317387507051989a"), looks := true }, kinds := [], alts := [], laidByText := true, laidKinds := [.data, .pinned], laidTests := true, laidLooks := .later }
def FilesMovesUptoCardSaid : Prop := Claim7.holds Tryz.pinned (.plain (OpenSpec.upto filesMovesSpec)) filesMovesUptoCard

/-- THE SECOND FORM's CARD OF 'farrierlaw16.FilesKeeps'. -/
def filesKeepsUptoCard : Claim7 := { stood := { row := filesKeepsUptoRow, standIns := [], harness := (true, "d2575807aabc15c29a1f0d26ef94a4190103096845869275317387507051989a"), looks := true }, kinds := [], alts := [], laidByText := true, laidKinds := [.data, .pinned], laidTests := true, laidLooks := .later }
def FilesKeepsUptoCardSaid : Prop := Claim7.holds Tryz.pinned (.plain (OpenSpec.upto filesKeepsSpec)) filesKeepsUptoCard
end Rows
end Go.Proofs.YtncdfaocemfgfaaGreatDoor
