/- Walks and lemmas on the program of this seat, used by its statements; each theorem bears its own conditions. -/
import Derived.Test.YteplbljjlbdhaabGreatDoorX17
import Derived.Test.YteplbljjlbdhaabGreatDoorX13
namespace Go.Proofs.YteplbljjlbdhaabGreatDoor
open Go.RowKit
set_option linter.unusedVariables false
set_option linter.unusedSimpArgs false
set_option linter.unusedSectionVars false
set_option maxHeartbeats 16000000
set_option maxRecDepth 100000
theorem SegIs.num {num u : Nat} {rs : List (List UInt8)} {B : List UInt8} (h : SegIs num rs u B) (h1 : 1 ≤ num) (h2 : num < 256 ^ 6) : numF (B.take 64) = num := by
 obtain ⟨l, _, _, _, _, h5⟩ := h.ex
 rw [h5, List.append_assoc]
 exact head_num num h1 h2 _
end Go.Proofs.YteplbljjlbdhaabGreatDoor
