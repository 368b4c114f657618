/- Walks and lemmas on the program of this seat, used by its statements; each theorem bears its own conditions. -/
import Derived.Test.YtdkjlaldhohbmaaGreatOO
import Derived.Handy
import Derived.OwnWalk
import Derived.Deep.AppendLies
import Derived.IntWalk
import Derived.Deep.CutRange
import Derived.Deep.RegionHeld3
import Derived.Deep.RegionLaw
import Derived.Shelf.SlicesQ.IndexFunc
namespace Go.Proofs.YtdkjlaldhohbmaaGreat
open Go.RowKit
set_option linter.unusedVariables false
set_option linter.unusedSimpArgs false
set_option maxHeartbeats 8000000
set_option maxRecDepth 100000
/-! ### Records' predicate -/
theorem recp_any (W : World) (b num t : Int) (g : Nat) (hg : W.cell? ⟨g, 0, none⟩ = some (I t)) :
    Calls Tryz.prog 90 #[.agg #[I b, I num], Ptr g] W fun e w' => e = .returned (.bool (num == t)) ∧ w' = W.alloc (.cells #[I b, I num] 119) := by
  have hlt := World.block_lt_of_cell? W _ hg
  have hg2 : (W.alloc (Obj.cells #[I b, I num] 119)).cell? ⟨g, 0, none⟩ = some (I t) :=
    (((Kept.refl [] W).alloc _).cell hlt (by simp)).trans hg
  have hnw := heap_new W (Obj.cells #[I b, I num] 119)
  have e1 := cell_at hnw 1
  simp only [List.getElem?_toArray, List.getElem?_cons_zero, List.getElem?_cons_succ] at e1
  clear hnw hlt
  go_enter Tryz.func90, Tryz.ntmps90
  go_wp2_with (fail)
  go_ret
  exact ⟨rfl, rfl⟩
theorem recp_below (w : World) (t : Int) (g : Nat) (hg : w.cell? ⟨g, 0, none⟩ = some (I t)) : PredBelow Tryz.prog 90 #[Ptr g] (fun s : Sg => .agg (#[I s.1, I s.2])) (fun s => ((s.2 : Int) == t)) w := by
  intro W x hW
  have hlt := World.block_lt_of_cell? w _ hg
  refine (recp_any W x.1 x.2 t g ((hW.cell (p := ⟨g, 0, none⟩) hlt).trans hg)).mono ?_
  rintro e w' ⟨rfl, rfl⟩
  exact ⟨rfl, hW.alloc hW.size _⟩
end Go.Proofs.YtdkjlaldhohbmaaGreat
