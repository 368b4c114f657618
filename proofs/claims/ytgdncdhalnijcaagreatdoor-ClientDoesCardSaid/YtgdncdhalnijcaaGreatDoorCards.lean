/-
  DERIVED. GIVEN WITH THE SEED: THE CARDS: each row of YtgdncdhalnijcaaGreatDoorRows.lean that lists a variable, with what it lists TIED to the program's text (the seventh form; the later family's looks); each row that meets fmt, with fmt's text TOLD by the authors' own Lean function (tested against real Go, not proved from fmt's source: count such statements apart). THE CARD IS WHAT COUNTS. Prove the row's statement (the work); the ties are given (YtgdncdhalnijcaaGreatDoorTie.lean); close each card by the builder's one call (the guide's Derived/Test/ToyasCard.lean, 'card_holds'). Laid BY PROGRAM, IN A SANDBOX (cutbox-door.mjs). By AI agents, Wed Nov 11 2026. No macro, syntax, notation, axiom, sorry.
-/
import Derived.Test.YtgdncdhalnijcaaGreatDoorRows
import GoSem.ClaimSeven
namespace Go.Proofs.YtgdncdhalnijcaaGreatDoor
namespace Rows

/-- THE TIED CARD OF 'farrierlaw19.ClientWhole'. -/
def clientWholeCard : Claim7 := { stood := { row := clientWholeRow, standIns := [], harness := (true, "8bd7ca45fc6da5e53b90df47e99b852c441395ac1d4c94ad11b97ba244f03325"), looks := true }, kinds := [], alts := [], laidByText := true, laidKinds := [.data, .data, .data, .data, .data, .data, .pinned, .pinned], laidTests := true, laidLooks := .later }
def ClientWholeCardSaid : Prop := Claim7.holds Tryz.pinned (.plain (OpenSpec.ofChange clientWholeSpec)) clientWholeCard

/-- THE TIED CARD OF 'farrierlaw19.ClientEnds'. -/
def clientEndsCard : Claim7 := { stood := { row := clientEndsRow, standIns := [], harness := (true, "8bd7ca45fc6da5e53b90df47e99b852c441395ac1d4c94ad11b97ba244f03325"), looks := true }, kinds := [], alts := [], laidByText := true, laidKinds := [.data, .data, .data, .data, .data, .data, .pinned, .pinned], laidTests := true, laidLooks := .later }
def ClientEndsCardSaid : Prop := Claim7.holds Tryz.pinned (.plain (OpenSpec.ofChange clientEndsSpec)) clientEndsCard

/-- THE TIED CARD OF 'farrierlaw19.ClientBounds'. -/
def clientBoundsCard : Claim7 := { stood := { row := clientBoundsRow, standIns := [], harness := (true, "8bd7ca45fc6da5e53b90df47e99b852c441395ac1d4c94ad11b97ba244f03325"), looks := true }, kinds := [], alts := [], laidByText := true, laidKinds := [.data, .data, .data, .data, .data, .data, .pinned, .pinned], laidTests := true, laidLooks := .later }
def ClientBoundsCardSaid : Prop := Claim7.holds Tryz.pinned (.plain (OpenSpec.ofChange clientBoundsSpec)) clientBoundsCard

/-- THE TIED CARD OF 'farrierlaw19.ClientTries'. -/
def clientTriesCard : Claim7 := { stood := { row := clientTriesRow, standIns := [], harness := (true, "8bd7ca45fc6da5e53b90df47e99b852c441395ac1d4c94ad11b97ba244f03325"), looks := true }, kinds := [], alts := [], laidByText := true, laidKinds := [.data, .data, .data, .data, .data, .data, .pinned, .pinned], laidTests := true, laidLooks := .later }
def ClientTriesCardSaid : Prop := Claim7.holds Tryz.pinned (.plain (OpenSpec.ofChange clientTriesSpec)) clientTriesCard

/-- THE TIED CARD OF 'farrierlaw19.ClientDoes'. -/
def clientDoesCard : Claim7 := { stood := { row := clientDoesRow, standIns := [], harness := (true, "8bd7ca45fc6da5e53b90df47e99b852c441395ac1d4c94ad11b97ba244f03325"), looks := true }, kinds := [], alts := [], laidByText := true, laidKinds := [.data, .data, .data, .data, .data, .data, .pinned, .pinned], laidTests := true, laidLooks := .later }
def ClientDoesCardSaid : Prop := Claim7.holds Tryz.pinned (.plain (OpenSpec.ofChange clientDoesSpec)) clientDoesCard

/-- THE SECOND FORM's CARD OF 'farrierlaw19.ClientWhole'. -/
def clientWholeUptoCard : Claim7 := { stood := { row := clientWholeUptoRow, standIns := [], harness := (true, "8bd7ca45fc6da5e53b90df47e99b852c441395ac1d4c94ad11b97ba244f03325"), looks := true }, kinds := [], alts := [], laidByText := true, laidKinds := [.data, .data, .data, .data, .data, .data, .pinned, .pinned], laidTests := true, laidLooks := .later }
def ClientWholeUptoCardSaid : Prop := Claim7.holds Tryz.pinned (.plain (OpenSpec.upto clientWholeSpec)) clientWholeUptoCard

/-- THE SECOND FORM's CARD OF 'farrierlaw19.ClientEnds'. -/
def clientEndsUptoCard : Claim7 := { stood := { row := clientEndsUptoRow, standIns := [], harness := (true, "8bd7ca45fc6da5e53b90df47e99b852c441395ac1d4c94ad11b97ba244f03325"), looks := true }, kinds := [], alts := [], laidByText := true, laidKinds := [.data, .data, .data, .data, .data, .data, .pinned, .pinned], laidTests := true, laidLooks := .later }
def ClientEndsUptoCardSaid : Prop := Claim7.holds Tryz.pinned (.plain (OpenSpec.upto clientEndsSpec)) clientEndsUptoCard

/-- THE SECOND FORM's CARD OF 'farrierlaw19.ClientBounds'. -/
def clientBoundsUptoCard : Claim7 := { stood := { row := clientBoundsUptoRow, standIns := [], harness := (true, "8bd7ca45fc6da5e53b90df47e99b852c441395ac1d4c94ad11b97ba244f03325"), looks := true }, kinds := [], alts := [], laidByText := true, laidKinds := [.data, .data, .data, .data, .data, .data, .pinned, .pinned], laidTests := true, laidLooks := .later }
def ClientBoundsUptoCardSaid : Prop := Claim7.holds Tryz.pinned (.plain (OpenSpec.upto clientBoundsSpec)) clientBoundsUptoCard

/-- THE SECOND FORM's CARD OF 'farrierlaw19.ClientTries'. -/
def clientTriesUptoCard : Claim7 := { stood := { row := clientTriesUptoRow, standIns := [], harness := (true, "8bd7ca45fc6da5e53b90df47e99b852c441395ac1d4c94ad11b97ba244f03325"), looks := true }, kinds := [], alts := [], laidByText := true, laidKinds := [.data, .data, .data, .data, .data, .data, .pinned, .pinned], laidTests := true, laidLooks := .later }
def ClientTriesUptoCardSaid : Prop := Claim7.holds Tryz.pinned (.plain (OpenSpec.upto clientTriesSpec)) clientTriesUptoCard

/-- THE SECOND FORM's CARD OF 'farrierlaw19.ClientDoes'. -/
def clientDoesUptoCard : Claim7 := { stood := { row := clientDoesUptoRow, standIns := [], harness := (true, "8bd7ca45fc6da5e53b90df47e99b852c441395ac1d4c94ad11b97ba244f03325"), looks := true }, kinds := [], alts := [], laidByText := true, laidKinds := [.data, .data, .data, .data, .data, .data, .pinned, .pinned], laidTests := true, laidLooks := .later }
def ClientDoesUptoCardSaid : Prop := Claim7.holds Tryz.pinned (.plain (OpenSpec.upto clientDoesSpec)) clientDoesUptoCard
end Rows
end Go.Proofs.YtgdncdhalnijcaaGreatDoor
