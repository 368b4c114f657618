/-
  DERIVED. GIVEN WITH THE SEED: THE CARDS: each row of YtgdncdhalnijcaaDoorRows.lean that lists a variable, with what it lists TIED to the program's text (the seventh form; the later family's looks); each row that meets fmt, with fmt's text TOLD by the authors' own Lean function (tested against real Go, not proved from fmt's source: count such statements apart). THE CARD IS WHAT COUNTS. Prove the row's statement (the work); the ties are given (YtgdncdhalnijcaaDoorTie.lean); close each card by the builder's one call (the guide's Derived/Test/ToyasCard.lean, 'card_holds'). Laid BY PROGRAM, IN A SANDBOX (cutbox-door.mjs). By AI agents, Wed Nov 11 2026. No macro, syntax, notation, axiom, sorry.
-/
import Derived.Test.YtgdncdhalnijcaaDoorRows
import GoSem.ClaimSeven
namespace Go.Proofs.YtgdncdhalnijcaaDoor
namespace Rows

/-- THE TIED CARD OF 'farrierlaw18.BodyGrows'. -/
def bodyGrowsCard : Claim7 := { stood := { row := bodyGrowsRow, standIns := [], harness := (true, "73ed5857ac4d296052a3f716d1c2925620224b1764060fea960c5402073730b9"), looks := false }, kinds := [], alts := [], laidByText := true, laidKinds := [.data, .data, .data, .pinned, .pinned], laidTests := true, laidLooks := .later }
def BodyGrowsCardSaid : Prop := Claim7.holds Tryd.pinned (.plain (OpenSpec.ofChange bodyGrowsSpec)) bodyGrowsCard

/-- THE SECOND FORM's CARD OF 'farrierlaw18.BodyGrows'. -/
def bodyGrowsUptoCard : Claim7 := { stood := { row := bodyGrowsUptoRow, standIns := [], harness := (true, "73ed5857ac4d296052a3f716d1c2925620224b1764060fea960c5402073730b9"), looks := false }, kinds := [], alts := [], laidByText := true, laidKinds := [.data, .data, .data, .pinned, .pinned], laidTests := true, laidLooks := .later }
def BodyGrowsUptoCardSaid : Prop := Claim7.holds Tryd.pinned (.plain (OpenSpec.upto bodyGrowsSpec)) bodyGrowsUptoCard
end Rows
end Go.Proofs.YtgdncdhalnijcaaDoor
