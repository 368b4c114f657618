/-
  DERIVED. GIVEN WITH THE SEED: THE CARDS: each row of YtamihbcgiaeacaaDoorRows.lean that lists a variable, with what it lists TIED to the program's text (the seventh form; the later family's looks); each row that meets fmt, with fmt's text TOLD by the authors' own Lean function (tested against real Go, not proved from fmt's source: count such statements apart). THE CARD IS WHAT COUNTS. Prove the row's statement (the work); the ties are given (YtamihbcgiaeacaaDoorTie.lean); close each card by the builder's one call (the guide's Derived/Test/ToyasCard.lean, 'card_holds'). Laid BY PROGRAM, IN A SANDBOX (cutbox-door.mjs). By AI agents, Wed Nov 11 2026. No macro, syntax, notation, axiom, sorry.
-/
import Derived.Test.YtamihbcgiaeacaaDoorRows
import GoSem.ClaimSeven
namespace Go.Proofs.YtamihbcgiaeacaaDoor
namespace Rows

/-- THE TIED CARD OF 'farrierlaw18.BodyCuts'. -/
def bodyCutsCard : Claim7 := { stood := { row := bodyCutsRow, standIns := [], harness := (true, "c7edb9437cdf1d15bd7f750278578c3d31658aaec474a2f2a72212d548b6928b"), looks := false }, kinds := [], alts := [], laidByText := true, laidKinds := [.data, .data, .data, .pinned, .pinned], laidTests := true, laidLooks := .later }
def BodyCutsCardSaid : Prop := Claim7.holds Tryd.pinned (.plain (OpenSpec.ofChange bodyCutsSpec)) bodyCutsCard

/-- THE TIED CARD OF 'farrierlaw18.BodyBack'. -/
def bodyBackCard : Claim7 := { stood := { row := bodyBackRow, standIns := [], harness := (true, "c7edb9437cdf1d15bd7f750278578c3d31658aaec474a2f2a72212d548b6928b"), looks := false }, kinds := [], alts := [], laidByText := true, laidKinds := [.data, .data, .data, .pinned, .pinned], laidTests := true, laidLooks := .later }
def BodyBackCardSaid : Prop := Claim7.holds Tryd.pinned (.plain (OpenSpec.ofChange bodyBackSpec)) bodyBackCard

/-- THE TIED CARD OF 'farrierlaw18.BodyBounds'. -/
def bodyBoundsCard : Claim7 := { stood := { row := bodyBoundsRow, standIns := [], harness := (true, "c7edb9437cdf1d15bd7f750278578c3d31658aaec474a2f2a72212d548b6928b"), looks := false }, kinds := [], alts := [], laidByText := true, laidKinds := [.data, .data, .data, .pinned, .pinned], laidTests := true, laidLooks := .later }
def BodyBoundsCardSaid : Prop := Claim7.holds Tryd.pinned (.plain (OpenSpec.ofChange bodyBoundsSpec)) bodyBoundsCard

/-- THE TIED CARD OF 'farrierlaw18.BodyGrows'. -/
def bodyGrowsCard : Claim7 := { stood := { row := bodyGrowsRow, standIns := [], harness := (true, "c7edb9437cdf1d15bd7f750278578c3d31658aaec474a2f2a72212d548b6928b"), looks := false }, kinds := [], alts := [], laidByText := true, laidKinds := [.data, .data, .data, .pinned, .pinned], laidTests := true, laidLooks := .later }
def BodyGrowsCardSaid : Prop := Claim7.holds Tryd.pinned (.plain (OpenSpec.ofChange bodyGrowsSpec)) bodyGrowsCard

/-- THE SECOND FORM's CARD OF 'farrierlaw18.BodyCuts'. -/
def bodyCutsUptoCard : Claim7 := { stood := { row := bodyCutsUptoRow, standIns := [], harness := (true, "c7edb9437cdf1d15bd7f750278578c3d31658aaec474a2f2a72212d548b6928b"), looks := false }, kinds := [], alts := [], laidByText := true, laidKinds := [.data, .data, .data, .pinned, .pinned], laidTests := true, laidLooks := .later }
def BodyCutsUptoCardSaid : Prop := Claim7.holds Tryd.pinned (.plain (OpenSpec.upto bodyCutsSpec)) bodyCutsUptoCard

/-- THE SECOND FORM's CARD OF 'farrierlaw18.BodyBack'. -/
def bodyBackUptoCard : Claim7 := { stood := { row := bodyBackUptoRow, standIns := [], harness := (true, "c7edb9437cdf1d15bd7f750278578c3d31658aaec474a2f2a72212d548b6928b"), looks := false }, kinds := [], alts := [], laidByText := true, laidKinds := [.data, .data, .data, .pinned, .pinned], laidTests := true, laidLooks := .later }
def BodyBackUptoCardSaid : Prop := Claim7.holds Tryd.pinned (.plain (OpenSpec.upto bodyBackSpec)) bodyBackUptoCard

/-- THE SECOND FORM's CARD OF 'farrierlaw18.BodyBounds'. -/
def bodyBoundsUptoCard : Claim7 := { stood := { row := bodyBoundsUptoRow, standIns := [], harness := (true, "c7edb9437cdf1d15bd7f750278578c3d31658aaec474a2f2a72212d548b6928b"), looks := false }, kinds := [], alts := [], laidByText := true, laidKinds := [.data, .data, .data, .pinned, .pinned], laidTests := true, laidLooks := .later }
def BodyBoundsUptoCardSaid : Prop := Claim7.holds Tryd.pinned (.plain (OpenSpec.upto bodyBoundsSpec)) bodyBoundsUptoCard

/-- THE SECOND FORM's CARD OF 'farrierlaw18.BodyGrows'. -/
def bodyGrowsUptoCard : Claim7 := { stood := { row := bodyGrowsUptoRow, standIns := [], harness := (true, "c7edb9437cdf1d15bd7f750278578c3d31658aaec474a2f2a72212d548b6928b"), looks := false }, kinds := [], alts := [], laidByText := true, laidKinds := [.data, .data, .data, .pinned, .pinned], laidTests := true, laidLooks := .later }
def BodyGrowsUptoCardSaid : Prop := Claim7.holds Tryd.pinned (.plain (OpenSpec.upto bodyGrowsSpec)) bodyGrowsUptoCard
end Rows
end Go.Proofs.YtamihbcgiaeacaaDoor
