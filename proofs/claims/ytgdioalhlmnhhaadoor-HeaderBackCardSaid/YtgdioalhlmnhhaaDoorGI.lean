/- Walks and lemmas on the program of this seat, used by its statements; each theorem bears its own conditions. -/
import Derived.Test.YtgdioalhlmnhhaaDoorGen
namespace Go.Proofs.YtgdioalhlmnhhaaDoor
open Go.RowKit
set_option linter.unusedVariables false
set_option linter.unusedSimpArgs false
/-! ### Slices of numbers and of texts among the arguments -/
def IntsAt (w : World) (v : Value) (zs : List Int) : Prop :=
  ∃ (p : Option Addr) (cap : Nat), v = .slice p zs.length cap ∧ zs.length ≤ 9223372036854775807 ∧ (zs ≠ [] → ∃ b off, p = some ⟨b, off, none⟩ ∧ ∀ (i : Nat), i < zs.length → w.cell? ⟨b, off + i, none⟩ = some (I (zs.getD i 0)))
theorem cellOf_kept {w w' : World} (h : Kept [] w w') {p : Addr} {v : Value} (hc : w.cell? p = some v) : w'.cell? p = some v := by
  have hb : p.block < w.heap.size := World.block_lt_of_cell? w _ hc
  rw [h.cell hb (by simp), hc]
theorem IntsAt.kept {w w' : World} {v : Value} {zs : List Int} (h : IntsAt w v zs) (k : Kept [] w w') : IntsAt w' v zs := by
  obtain ⟨p, cap, hv, hl, hc⟩ := h
  refine ⟨p, cap, hv, hl, fun hne => ?_⟩
  obtain ⟨b, off, hp, hcell⟩ := hc hne
  exact ⟨b, off, hp, fun i hi => cellOf_kept k (hcell i hi)⟩
def TextsAt (w : World) (v : Value) (ss : List (List UInt8)) : Prop :=
  ∃ (p : Option Addr) (cap : Nat), v = .slice p ss.length cap ∧ ss.length ≤ 9223372036854775807 ∧ (ss ≠ [] → ∃ b off, p = some ⟨b, off, none⟩ ∧ ∀ (i : Nat), i < ss.length → w.cell? ⟨b, off + i, none⟩ = some (S (ss.getD i [])))
theorem TextsAt.kept {w w' : World} {v : Value} {ss : List (List UInt8)} (h : TextsAt w v ss) (k : Kept [] w w') : TextsAt w' v ss := by
  obtain ⟨p, cap, hv, hl, hc⟩ := h
  refine ⟨p, cap, hv, hl, fun hne => ?_⟩
  obtain ⟨b, off, hp, hcell⟩ := hc hne
  exact ⟨b, off, hp, fun i hi => cellOf_kept k (hcell i hi)⟩
end Go.Proofs.YtgdioalhlmnhhaaDoor
