/- Walks and lemmas on the program of this seat, used by its statements; each theorem bears its own conditions. -/
import Derived.Test.YtgdioalhlmnhhaaDoorCU
import Derived.Test.YtgdioalhlmnhhaaDoorGI
namespace Go.Proofs.YtgdioalhlmnhhaaDoor
open Go.RowKit
set_option linter.unusedVariables false
set_option linter.unusedSimpArgs false
section
open Go.Lib Go.ChangeShapes Go.WideShapes Go.ChangeAt Go.Joins
theorem cells_int : Tryd.prog.cellsOf 3 = 1 := by kernel_rfl
theorem cells_text : Tryd.prog.cellsOf 9 = 1 := by kernel_rfl
theorem ints_of_trod {H : Type} {enc : TypeId × Value → H} {W : World} {base : Nat} {sp : Nat → Bool} {held : Bool} {fuel : Nat} {v : Value} {x : DataW H × List MemPlace}
    (h : DataW.trod enc Tryd.prog W base sp held fuel 33 [v] = some x) : ∃ zs, IntsAt W v zs := by
  rcases open_ints Tryd.underlying33 Tryd.underlying3 cells_int h with ⟨hcs, hx⟩ | ⟨a, len, cap, ss, hcs, _, hl, hm, hz, hx, hcell, hwf⟩
  · simp at hcs; subst hcs
    exact ⟨[], none, 0, rfl, by simp, fun h => absurd rfl h⟩
  · simp at hcs; subst hcs
    have hlen : len ≤ ss.length := by rw [hz]; split <;> omega
    have hsl : (ss.take len).length = len := by simp; omega
    refine ⟨ss.take len, some a, cap, by rw [hsl], by rw [hsl]; unfold maxLen at hm; omega, fun hne => ?_⟩
    have hpos : 0 < len := by
      rcases Nat.eq_zero_or_pos len with h0 | h0
      · subst h0; simp at hne
      · exact h0
    obtain ⟨b, off, spot⟩ := a
    have hspot : spot = none := by simpa [Addr.add] using World.cell?_spot (hcell 0 (by omega))
    subst hspot
    refine ⟨b, off, rfl, fun i hi => ?_⟩
    rw [hsl] at hi
    have hc := hcell i (by omega)
    rw [Addr.add_lit] at hc
    have : (ss.take len).getD i 0 = ss.getD i 0 := by
      rw [List.getD_eq_getElem?_getD, List.getElem?_take_of_lt hi, ← List.getD_eq_getElem?_getD]
    rw [this]; exact hc
theorem texts_of_trod {H : Type} {enc : TypeId × Value → H} {W : World} {base : Nat} {sp : Nat → Bool} {held : Bool} {fuel : Nat} {v : Value} {x : DataW H × List MemPlace}
    (h : DataW.trod enc Tryd.prog W base sp held fuel 47 [v] = some x) : ∃ ss, TextsAt W v ss := by
  rcases open_strings Tryd.underlying47 Tryd.underlying9 cells_text h with ⟨hcs, hx⟩ | ⟨a, len, cap, ss, hcs, _, hl, hm, hz, hx, hcell, _⟩
  · simp at hcs; subst hcs
    exact ⟨[], none, 0, rfl, by simp, fun h => absurd rfl h⟩
  · simp at hcs; subst hcs
    have hlen : len ≤ ss.length := by rw [hz]; split <;> omega
    have hsl : ((ss.take len).map (·.data.toList)).length = len := by simp; omega
    refine ⟨(ss.take len).map (·.data.toList), some a, cap, by rw [hsl], by rw [hsl]; unfold maxLen at hm; omega, fun hne => ?_⟩
    have hpos : 0 < len := by
      rcases Nat.eq_zero_or_pos len with h0 | h0
      · subst h0; simp at hne
      · exact h0
    obtain ⟨b, off, spot⟩ := a
    have hspot : spot = none := by simpa [Addr.add] using World.cell?_spot (hcell 0 (by omega))
    subst hspot
    refine ⟨b, off, rfl, fun i hi => ?_⟩
    rw [hsl] at hi
    have hc := hcell i (by omega)
    rw [Addr.add_lit] at hc
    have h1 : ((ss.take len).map (·.data.toList)).getD i [] = (ss.getD i ByteArray.empty).data.toList := by
      rw [List.getD_eq_getElem?_getD, List.getElem?_map, List.getElem?_take_of_lt hi, List.getD_eq_getElem?_getD]
      have : i < ss.length := by omega
      simp [this]
    rw [h1]
    show _ = some (Value.string ⟨(ss.getD i ByteArray.empty).data.toList.toArray⟩)
    rw [Lib.mk_data]; exact hc
end
end Go.Proofs.YtgdioalhlmnhhaaDoor
