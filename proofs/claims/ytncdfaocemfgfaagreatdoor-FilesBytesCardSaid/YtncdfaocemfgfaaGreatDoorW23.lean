/- Walks and lemmas on the program of this seat, used by its statements; each theorem bears its own conditions. -/
import Derived.Test.YtncdfaocemfgfaaGreatDoorW22
import Derived.Test.YtncdfaocemfgfaaGreatDoorW17
import Derived.Handy
import Derived.OwnWalk
import Derived.Deep.AppendLies
import Derived.IntWalk
import Derived.Deep.CutRange
import Derived.Deep.RegionHeld3
import Derived.Deep.RegionLaw
import Derived.Maps.OwnSet
import Derived.Maps.Range
import Derived.Deep.OwnRows
namespace Go.Proofs.YtncdfaocemfgfaaGreatDoor
open Go.RowKit
set_option linter.unusedVariables false
set_option linter.unusedSimpArgs false
set_option linter.unusedSectionVars false
open Go.RowKit
set_option linter.unusedVariables false
set_option linter.unusedSimpArgs false
set_option maxHeartbeats 8000000
set_option maxRecDepth 100000
theorem SegIs.num {num u : Nat} {rs : List (List UInt8)} {B : List UInt8} (h : SegIs num rs u B) (h1 : 1 ≤ num) (h2 : num < 256 ^ 6) : numF (B.take 64) = num := by
  obtain ⟨l, _, _, _, _, h5⟩ := h.ex
  rw [h5, List.append_assoc]
  exact head_num num h1 h2 _
end Go.Proofs.YtncdfaocemfgfaaGreatDoor
