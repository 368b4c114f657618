/-
  DERIVED. GIVEN WITH THE SEED: THE CARDS: each row of YtlchdokpkaikhaaDoorRows.lean that lists a variable, with what it lists TIED to the program's text (the seventh form; the later family's looks); each row that meets fmt, with fmt's text TOLD by the authors' own Lean function (tested against real Go, not proved from fmt's source: count such statements apart). THE CARD IS WHAT COUNTS. Prove the row's statement (the work); the ties are given (YtlchdokpkaikhaaDoorTie.lean); close each card by the builder's one call (the guide's Derived/Test/ToyasCard.lean, 'card_holds'). Laid BY PROGRAM, IN A SANDBOX (cutbox-door.mjs). By AI agents, Wed Nov 11 2026. No macro, syntax, notation, axiom, sorry.
-/
import Derived.Test.YtlchdokpkaikhaaDoorRows
import GoSem.ClaimSeven
namespace Go.Proofs.YtlchdokpkaikhaaDoor
namespace Rows

/-- THE TIED CARD OF 'farrierlaw25.UpdaterSteps'. -/
def updaterStepsCard : Claim7 := { stood := { row := updaterStepsRow, standIns := [], harness := (true, "09afbf717d32c0be4a342c290ffa5c215264329bf476ecf811a44f38284a6d50"), looks := true }, kinds := [], alts := [], laidByText := true, laidKinds := [.data, .data, .data, .data, .sentinel, .sentinel, .pinned], laidTests := true, laidLooks := .later }
def UpdaterStepsCardSaid : Prop := Claim7.holds Tryd.pinned (.plain (OpenSpec.ofChange updaterStepsSpec)) updaterStepsCard

/-- THE TIED CARD OF 'farrierlaw25.UpdaterTexts'. -/
def updaterTextsCard : Claim7 := { stood := { row := updaterTextsRow, standIns := [], harness := (true, "09afbf717d32c0be4a342c290ffa5c215264329bf476ecf811a44f38284a6d50"), looks := true }, kinds := [], alts := [], laidByText := true, laidKinds := [.data, .data, .data, .data, .sentinel, .sentinel, .pinned], laidTests := true, laidLooks := .later }
def UpdaterTextsCardSaid : Prop := Claim7.holds Tryd.pinned (.plain (OpenSpec.ofChange updaterTextsSpec)) updaterTextsCard

/-- THE TIED CARD OF 'farrierlaw25.UpdaterBack'. -/
def updaterBackCard : Claim7 := { stood := { row := updaterBackRow, standIns := [], harness := (true, "09afbf717d32c0be4a342c290ffa5c215264329bf476ecf811a44f38284a6d50"), looks := true }, kinds := [], alts := [], laidByText := true, laidKinds := [.data, .data, .data, .data, .sentinel, .sentinel, .pinned], laidTests := true, laidLooks := .later }
def UpdaterBackCardSaid : Prop := Claim7.holds Tryd.pinned (.plain (OpenSpec.ofChange updaterBackSpec)) updaterBackCard

/-- THE TIED CARD OF 'farrierlaw25.UpdaterOnce'. -/
def updaterOnceCard : Claim7 := { stood := { row := updaterOnceRow, standIns := [], harness := (true, "09afbf717d32c0be4a342c290ffa5c215264329bf476ecf811a44f38284a6d50"), looks := true }, kinds := [], alts := [], laidByText := true, laidKinds := [.data, .data, .data, .data, .sentinel, .sentinel, .pinned], laidTests := true, laidLooks := .later }
def UpdaterOnceCardSaid : Prop := Claim7.holds Tryd.pinned (.plain (OpenSpec.ofChange updaterOnceSpec)) updaterOnceCard

/-- THE TIED CARD OF 'farrierlaw25.UpdaterTried'. -/
def updaterTriedCard : Claim7 := { stood := { row := updaterTriedRow, standIns := [], harness := (true, "09afbf717d32c0be4a342c290ffa5c215264329bf476ecf811a44f38284a6d50"), looks := true }, kinds := [], alts := [], laidByText := true, laidKinds := [.data, .data, .data, .data, .sentinel, .sentinel, .pinned], laidTests := true, laidLooks := .later }
def UpdaterTriedCardSaid : Prop := Claim7.holds Tryd.pinned (.plain (OpenSpec.ofChange updaterTriedSpec)) updaterTriedCard

/-- THE TIED CARD OF 'farrierlaw25.UpdaterWell'. -/
def updaterWellCard : Claim7 := { stood := { row := updaterWellRow, standIns := [], harness := (true, "09afbf717d32c0be4a342c290ffa5c215264329bf476ecf811a44f38284a6d50"), looks := true }, kinds := [], alts := [], laidByText := true, laidKinds := [.data, .data, .data, .data, .sentinel, .sentinel, .pinned], laidTests := true, laidLooks := .later }
def UpdaterWellCardSaid : Prop := Claim7.holds Tryd.pinned (.plain (OpenSpec.ofChange updaterWellSpec)) updaterWellCard

/-- THE SECOND FORM's CARD OF 'farrierlaw25.UpdaterSteps'. -/
def updaterStepsUptoCard : Claim7 := { stood := { row := updaterStepsUptoRow, standIns := [], harness := (true, "09afbf717d32c0be4a342c290ffa5c215264329bf476ecf811a44f38284a6d50"), looks := true }, kinds := [], alts := [], laidByText := true, laidKinds := [.data, .data, .data, .data, .sentinel, .sentinel, .pinned], laidTests := true, laidLooks := .later }
def UpdaterStepsUptoCardSaid : Prop := Claim7.holds Tryd.pinned (.plain (OpenSpec.upto updaterStepsSpec)) updaterStepsUptoCard

/-- THE SECOND FORM's CARD OF 'farrierlaw25.UpdaterTexts'. -/
def updaterTextsUptoCard : Claim7 := { stood := { row := updaterTextsUptoRow, standIns := [], harness := (true, "09afbf717d32c0be4a342c290ffa5c215264329bf476ecf811a44f38284a6d50"), looks := true }, kinds := [], alts := [], laidByText := true, laidKinds := [.data, .data, .data, .data, .sentinel, .sentinel, .pinned], laidTests := true, laidLooks := .later }
def UpdaterTextsUptoCardSaid : Prop := Claim7.holds Tryd.pinned (.plain (OpenSpec.upto updaterTextsSpec)) updaterTextsUptoCard

/-- THE SECOND FORM's CARD OF 'farrierlaw25.UpdaterBack'. -/
def updaterBackUptoCard : Claim7 := { stood := { row := updaterBackUptoRow, standIns := [], harness := (true, "09afbf717d32c0be4a342c290ffa5c215264329bf476ecf811a44f38284a6d50"), looks := true }, kinds := [], alts := [], laidByText := true, laidKinds := [.data, .data, .data, .data, .sentinel, .sentinel, .pinned], laidTests := true, laidLooks := .later }
def UpdaterBackUptoCardSaid : Prop := Claim7.holds Tryd.pinned (.plain (OpenSpec.upto updaterBackSpec)) updaterBackUptoCard

/-- THE SECOND FORM's CARD OF 'farrierlaw25.UpdaterOnce'. -/
def updaterOnceUptoCard : Claim7 := { stood := { row := updaterOnceUptoRow, standIns := [], harness := (true, "09afbf717d32c0be4a342c290ffa5c215264329bf476ecf811a44f38284a6d50"), looks := true }, kinds := [], alts := [], laidByText := true, laidKinds := [.data, .data, .data, .data, .sentinel, .sentinel, .pinned], laidTests := true, laidLooks := .later }
def UpdaterOnceUptoCardSaid : Prop := Claim7.holds Tryd.pinned (.plain (OpenSpec.upto updaterOnceSpec)) updaterOnceUptoCard

/-- THE SECOND FORM's CARD OF 'farrierlaw25.UpdaterTried'. -/
def updaterTriedUptoCard : Claim7 := { stood := { row := updaterTriedUptoRow, standIns := [], harness := (true, "09afbf717d32c0be4a342c290ffa5c215264329bf476ecf811a44f38284a6d50"), looks := true }, kinds := [], alts := [], laidByText := true, laidKinds := [.data, .data, .data, .data, .sentinel, .sentinel, .pinned], laidTests := true, laidLooks := .later }
def UpdaterTriedUptoCardSaid : Prop := Claim7.holds Tryd.pinned (.plain (OpenSpec.upto updaterTriedSpec)) updaterTriedUptoCard

/-- THE SECOND FORM's CARD OF 'farrierlaw25.UpdaterWell'. -/
def updaterWellUptoCard : Claim7 := { stood := { row := updaterWellUptoRow, standIns := [], harness := (true, "09afbf717d32c0be4a342c290ffa5c215264329bf476ecf811a44f38284a6d50"), looks := true }, kinds := [], alts := [], laidByText := true, laidKinds := [.data, .data, .data, .data, .sentinel, .sentinel, .pinned], laidTests := true, laidLooks := .later }
def UpdaterWellUptoCardSaid : Prop := Claim7.holds Tryd.pinned (.plain (OpenSpec.upto updaterWellSpec)) updaterWellUptoCard
end Rows
end Go.Proofs.YtlchdokpkaikhaaDoor
