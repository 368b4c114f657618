/-
  DERIVED. GIVEN WITH THE SEED: THE CARDS: each row of YtgdioalhlmnhhaaDoorRows.lean that lists a variable, with what it lists TIED to the program's text (the seventh form; the later family's looks); each row that meets fmt, with fmt's text TOLD by the authors' own Lean function (tested against real Go, not proved from fmt's source: count such statements apart). THE CARD IS WHAT COUNTS. Prove the row's statement (the work); the ties are given (YtgdioalhlmnhhaaDoorTie.lean); close each card by the builder's one call (the guide's Derived/Test/ToyasCard.lean, 'card_holds'). Laid BY PROGRAM, IN A SANDBOX (cutbox-door.mjs). By AI agents, Wed Nov 11 2026. No macro, syntax, notation, axiom, sorry.
-/
import Derived.Test.YtgdioalhlmnhhaaDoorRows
import GoSem.ClaimSeven
namespace Go.Proofs.YtgdioalhlmnhhaaDoor
namespace Rows

/-- THE TIED CARD OF 'farrierlaw20.TarHeads'. -/
def tarHeadsCard : Claim7 := { stood := { row := tarHeadsRow, standIns := [], harness := (true, "2f628b13c93255df9e18378d4326c30ffcbe9faa38afba882927afca973bc1df"), looks := true }, kinds := [], alts := [], laidByText := true, laidKinds := [.data, .pinned], laidTests := true, laidLooks := .later }
def TarHeadsCardSaid : Prop := Claim7.holds Tryd.pinned (.plain (OpenSpec.ofChange tarHeadsSpec)) tarHeadsCard

/-- THE TIED CARD OF 'farrierlaw20.TarTurned'. -/
def tarTurnedCard : Claim7 := { stood := { row := tarTurnedRow, standIns := [], harness := (true, "2f628b13c93255df9e18378d4326c30ffcbe9faa38afba882927afca973bc1df"), looks := true }, kinds := [], alts := [], laidByText := true, laidKinds := [.data, .pinned], laidTests := true, laidLooks := .later }
def TarTurnedCardSaid : Prop := Claim7.holds Tryd.pinned (.plain (OpenSpec.ofChange tarTurnedSpec)) tarTurnedCard

/-- THE TIED CARD OF 'farrierlaw20.TarReads'. -/
def tarReadsCard : Claim7 := { stood := { row := tarReadsRow, standIns := [], harness := (true, "2f628b13c93255df9e18378d4326c30ffcbe9faa38afba882927afca973bc1df"), looks := true }, kinds := [], alts := [], laidByText := true, laidKinds := [.data, .pinned], laidTests := true, laidLooks := .later }
def TarReadsCardSaid : Prop := Claim7.holds Tryd.pinned (.plain (OpenSpec.ofChange tarReadsSpec)) tarReadsCard

/-- THE TIED CARD OF 'farrierlaw20.TarBack'. -/
def tarBackCard : Claim7 := { stood := { row := tarBackRow, standIns := [], harness := (true, "2f628b13c93255df9e18378d4326c30ffcbe9faa38afba882927afca973bc1df"), looks := true }, kinds := [], alts := [], laidByText := true, laidKinds := [.data, .pinned], laidTests := true, laidLooks := .later }
def TarBackCardSaid : Prop := Claim7.holds Tryd.pinned (.plain (OpenSpec.ofChange tarBackSpec)) tarBackCard

/-- THE TIED CARD OF 'farrierlaw21.HeaderPrints'. -/
def headerPrintsCard : Claim7 := { stood := { row := headerPrintsRow, standIns := [], harness := (true, "2f628b13c93255df9e18378d4326c30ffcbe9faa38afba882927afca973bc1df"), looks := true }, kinds := [], alts := [], laidByText := true, laidKinds := [.data, .data, .data, .data, .sentinel, .sentinel, .pinned], laidTests := true, laidLooks := .later }
def HeaderPrintsCardSaid : Prop := Claim7.holds Tryd.pinned (.plain (OpenSpec.ofChange headerPrintsSpec)) headerPrintsCard

/-- THE TIED CARD OF 'farrierlaw21.HeaderParses'. -/
def headerParsesCard : Claim7 := { stood := { row := headerParsesRow, standIns := [], harness := (true, "2f628b13c93255df9e18378d4326c30ffcbe9faa38afba882927afca973bc1df"), looks := true }, kinds := [], alts := [], laidByText := true, laidKinds := [.data, .data, .data, .data, .sentinel, .sentinel, .pinned], laidTests := true, laidLooks := .later }
def HeaderParsesCardSaid : Prop := Claim7.holds Tryd.pinned (.plain (OpenSpec.ofChange headerParsesSpec)) headerParsesCard

/-- THE TIED CARD OF 'farrierlaw21.HeaderBack'. -/
def headerBackCard : Claim7 := { stood := { row := headerBackRow, standIns := [], harness := (true, "2f628b13c93255df9e18378d4326c30ffcbe9faa38afba882927afca973bc1df"), looks := true }, kinds := [], alts := [], laidByText := true, laidKinds := [.data, .data, .data, .data, .sentinel, .sentinel, .pinned], laidTests := true, laidLooks := .later }
def HeaderBackCardSaid : Prop := Claim7.holds Tryd.pinned (.plain (OpenSpec.ofChange headerBackSpec)) headerBackCard

/-- THE TIED CARD OF 'farrierlaw17.HeadAsks'. -/
def headAsksCard : Claim7 := { stood := { row := headAsksRow, standIns := [], harness := (true, "2f628b13c93255df9e18378d4326c30ffcbe9faa38afba882927afca973bc1df"), looks := true }, kinds := [], alts := [], laidByText := true, laidKinds := [.data, .data, .data, .data, .pinned], laidTests := true, laidLooks := .later }
def HeadAsksCardSaid : Prop := Claim7.holds Tryd.pinned (.plain (OpenSpec.ofChange headAsksSpec)) headAsksCard

/-- THE TIED CARD OF 'farrierlaw17.HeadParses'. -/
def headParsesCard : Claim7 := { stood := { row := headParsesRow, standIns := [], harness := (true, "2f628b13c93255df9e18378d4326c30ffcbe9faa38afba882927afca973bc1df"), looks := true }, kinds := [], alts := [], laidByText := true, laidKinds := [.data, .data, .data, .data, .pinned], laidTests := true, laidLooks := .later }
def HeadParsesCardSaid : Prop := Claim7.holds Tryd.pinned (.plain (OpenSpec.ofChange headParsesSpec)) headParsesCard

/-- THE TIED CARD OF 'farrierlaw17.HeadCuts'. -/
def headCutsCard : Claim7 := { stood := { row := headCutsRow, standIns := [], harness := (true, "2f628b13c93255df9e18378d4326c30ffcbe9faa38afba882927afca973bc1df"), looks := true }, kinds := [], alts := [], laidByText := true, laidKinds := [.data, .data, .data, .data, .pinned], laidTests := true, laidLooks := .later }
def HeadCutsCardSaid : Prop := Claim7.holds Tryd.pinned (.plain (OpenSpec.ofChange headCutsSpec)) headCutsCard

/-- THE TIED CARD OF 'farrierlaw17.HeadBack'. -/
def headBackCard : Claim7 := { stood := { row := headBackRow, standIns := [], harness := (true, "2f628b13c93255df9e18378d4326c30ffcbe9faa38afba882927afca973bc1df"), looks := true }, kinds := [], alts := [], laidByText := true, laidKinds := [.data, .data, .data, .data, .pinned], laidTests := true, laidLooks := .later }
def HeadBackCardSaid : Prop := Claim7.holds Tryd.pinned (.plain (OpenSpec.ofChange headBackSpec)) headBackCard

/-- THE TIED CARD OF 'farrierlaw17.HeadTold'. -/
def headToldCard : Claim7 := { stood := { row := headToldRow, standIns := [], harness := (true, "2f628b13c93255df9e18378d4326c30ffcbe9faa38afba882927afca973bc1df"), looks := true }, kinds := [], alts := [], laidByText := true, laidKinds := [.data, .data, .data, .data, .pinned], laidTests := true, laidLooks := .later }
def HeadToldCardSaid : Prop := Claim7.holds Tryd.pinned (.plain (OpenSpec.ofChange headToldSpec)) headToldCard

/-- THE SECOND FORM's CARD OF 'farrierlaw20.TarHeads'. -/
def tarHeadsUptoCard : Claim7 := { stood := { row := tarHeadsUptoRow, standIns := [], harness := (true, "2f628b13c93255df9e18378d4326c30ffcbe9faa38afba882927afca973bc1df"), looks := true }, kinds := [], alts := [], laidByText := true, laidKinds := [.data, .pinned], laidTests := true, laidLooks := .later }
def TarHeadsUptoCardSaid : Prop := Claim7.holds Tryd.pinned (.plain (OpenSpec.upto tarHeadsSpec)) tarHeadsUptoCard

/-- THE SECOND FORM's CARD OF 'farrierlaw20.TarTurned'. -/
def tarTurnedUptoCard : Claim7 := { stood := { row := tarTurnedUptoRow, standIns := [], harness := (true, "2f628b13c93255df9e18378d4326c30ffcbe9faa38afba882927afca973bc1df"), looks := true }, kinds := [], alts := [], laidByText := true, laidKinds := [.data, .pinned], laidTests := true, laidLooks := .later }
def TarTurnedUptoCardSaid : Prop := Claim7.holds Tryd.pinned (.plain (OpenSpec.upto tarTurnedSpec)) tarTurnedUptoCard

/-- THE SECOND FORM's CARD OF 'farrierlaw20.TarReads'. -/
def tarReadsUptoCard : Claim7 := { stood := { row := tarReadsUptoRow, standIns := [], harness := (true, "2f628b13c93255df9e18378d4326c30ffcbe9faa38afba882927afca973bc1df"), looks := true }, kinds := [], alts := [], laidByText := true, laidKinds := [.data, .pinned], laidTests := true, laidLooks := .later }
def TarReadsUptoCardSaid : Prop := Claim7.holds Tryd.pinned (.plain (OpenSpec.upto tarReadsSpec)) tarReadsUptoCard

/-- THE SECOND FORM's CARD OF 'farrierlaw20.TarBack'. -/
def tarBackUptoCard : Claim7 := { stood := { row := tarBackUptoRow, standIns := [], harness := (true, "2f628b13c93255df9e18378d4326c30ffcbe9faa38afba882927afca973bc1df"), looks := true }, kinds := [], alts := [], laidByText := true, laidKinds := [.data, .pinned], laidTests := true, laidLooks := .later }
def TarBackUptoCardSaid : Prop := Claim7.holds Tryd.pinned (.plain (OpenSpec.upto tarBackSpec)) tarBackUptoCard

/-- THE SECOND FORM's CARD OF 'farrierlaw21.HeaderPrints'. -/
def headerPrintsUptoCard : Claim7 := { stood := { row := headerPrintsUptoRow, standIns := [], harness := (true, "2f628b13c93255df9e18378d4326c30ffcbe9faa38afba882927afca973bc1df"), looks := true }, kinds := [], alts := [], laidByText := true, laidKinds := [.data, .data, .data, .data, .sentinel, .sentinel, .pinned], laidTests := true, laidLooks := .later }
def HeaderPrintsUptoCardSaid : Prop := Claim7.holds Tryd.pinned (.plain (OpenSpec.upto headerPrintsSpec)) headerPrintsUptoCard

/-- THE SECOND FORM's CARD OF 'farrierlaw21.HeaderParses'. -/
def headerParsesUptoCard : Claim7 := { stood := { row := headerParsesUptoRow, standIns := [], harness := (true, "2f628b13c93255df9e18378d4326c30ffcbe9faa38afba882927afca973bc1df"), looks := true }, kinds := [], alts := [], laidByText := true, laidKinds := [.data, .data, .data, .data, .sentinel, .sentinel, .pinned], laidTests := true, laidLooks := .later }
def HeaderParsesUptoCardSaid : Prop := Claim7.holds Tryd.pinned (.plain (OpenSpec.upto headerParsesSpec)) headerParsesUptoCard

/-- THE SECOND FORM's CARD OF 'farrierlaw21.HeaderBack'. -/
def headerBackUptoCard : Claim7 := { stood := { row := headerBackUptoRow, standIns := [], harness := (true, "2f628b13c93255df9e18378d4326c30ffcbe9faa38afba882927afca973bc1df"), looks := true }, kinds := [], alts := [], laidByText := true, laidKinds := [.data, .data, .data, .data, .sentinel, .sentinel, .pinned], laidTests := true, laidLooks := .later }
def HeaderBackUptoCardSaid : Prop := Claim7.holds Tryd.pinned (.plain (OpenSpec.upto headerBackSpec)) headerBackUptoCard

/-- THE SECOND FORM's CARD OF 'farrierlaw17.HeadAsks'. -/
def headAsksUptoCard : Claim7 := { stood := { row := headAsksUptoRow, standIns := [], harness := (true, "2f628b13c93255df9e18378d4326c30ffcbe9faa38afba882927afca973bc1df"), looks := true }, kinds := [], alts := [], laidByText := true, laidKinds := [.data, .data, .data, .data, .pinned], laidTests := true, laidLooks := .later }
def HeadAsksUptoCardSaid : Prop := Claim7.holds Tryd.pinned (.plain (OpenSpec.upto headAsksSpec)) headAsksUptoCard

/-- THE SECOND FORM's CARD OF 'farrierlaw17.HeadParses'. -/
def headParsesUptoCard : Claim7 := { stood := { row := headParsesUptoRow, standIns := [], harness := (true, "2f628b13c93255df9e18378d4326c30ffcbe9faa38afba882927afca973bc1df"), looks := true }, kinds := [], alts := [], laidByText := true, laidKinds := [.data, .data, .data, .data, .pinned], laidTests := true, laidLooks := .later }
def HeadParsesUptoCardSaid : Prop := Claim7.holds Tryd.pinned (.plain (OpenSpec.upto headParsesSpec)) headParsesUptoCard

/-- THE SECOND FORM's CARD OF 'farrierlaw17.HeadCuts'. -/
def headCutsUptoCard : Claim7 := { stood := { row := headCutsUptoRow, standIns := [], harness := (true, "2f628b13c93255df9e18378d4326c30ffcbe9faa38afba882927afca973bc1df"), looks := true }, kinds := [], alts := [], laidByText := true, laidKinds := [.data, .data, .data, .data, .pinned], laidTests := true, laidLooks := .later }
def HeadCutsUptoCardSaid : Prop := Claim7.holds Tryd.pinned (.plain (OpenSpec.upto headCutsSpec)) headCutsUptoCard

/-- THE SECOND FORM's CARD OF 'farrierlaw17.HeadBack'. -/
def headBackUptoCard : Claim7 := { stood := { row := headBackUptoRow, standIns := [], harness := (true, "2f628b13c93255df9e18378d4326c30ffcbe9faa38afba882927afca973bc1df"), looks := true }, kinds := [], alts := [], laidByText := true, laidKinds := [.data, .data, .data, .data, .pinned], laidTests := true, laidLooks := .later }
def HeadBackUptoCardSaid : Prop := Claim7.holds Tryd.pinned (.plain (OpenSpec.upto headBackSpec)) headBackUptoCard

/-- THE SECOND FORM's CARD OF 'farrierlaw17.HeadTold'. -/
def headToldUptoCard : Claim7 := { stood := { row := headToldUptoRow, standIns := [], harness := (true, "2f628b13c93255df9e18378d4326c30ffcbe9faa38afba882927afca973bc1df"), looks := true }, kinds := [], alts := [], laidByText := true, laidKinds := [.data, .data, .data, .data, .pinned], laidTests := true, laidLooks := .later }
def HeadToldUptoCardSaid : Prop := Claim7.holds Tryd.pinned (.plain (OpenSpec.upto headToldSpec)) headToldUptoCard
end Rows
end Go.Proofs.YtgdioalhlmnhhaaDoor
