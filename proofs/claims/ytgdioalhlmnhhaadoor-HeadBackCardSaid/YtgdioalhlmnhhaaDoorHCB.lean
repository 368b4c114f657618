/- Walks and lemmas on the program of this seat, used by its statements; each theorem bears its own conditions. -/
import Derived.Test.YtgdioalhlmnhhaaDoorHCT
import Derived.Test.YtgdioalhlmnhhaaDoorGI
namespace Go.Proofs.YtgdioalhlmnhhaaDoor
open Go.RowKit
set_option linter.unusedVariables false
set_option linter.unusedSimpArgs false
section
open Go.Lib Go.ChangeShapes Go.WideShapes Go.ChangeAt Go.Joins
theorem cells_int : Tryd.prog.cellsOf 3 = 1 := by kernel_rfl
theorem cells_text : Tryd.prog.cellsOf 9 = 1 := by kernel_rfl
theorem ints_of_trod {H : Type} {enc : TypeId × Value → H} {W : World} {base : Nat} {sp : Nat → Bool} {held : Bool} {fuel : Nat} {v : Value} {x : DataW H × List MemPlace}
    (h : DataW.trod enc Tryd.prog W base sp held fuel 33 [v] = some x) : ∃ zs, IntsAt W v zs := by
  rcases open_ints Tryd.underlying33 Tryd.underlying3 cells_int h with ⟨hcs, hx⟩ | ⟨a, len, cap, ss, hcs, _, hl, hm, hz, hx, hcell, hwf⟩
  · simp at hcs; subst hcs
    exact ⟨[], none, 0, rfl, by simp, fun h => absurd rfl h⟩
  · simp at hcs; subst hcs
    have hlen : len ≤ ss.length := by rw [hz]; split <;> omega
    have hsl : (ss.take len).length = len := by simp; omega
    refine ⟨ss.take len, some a, cap, by rw [hsl], by rw [hsl]; unfold maxLen at hm; omega, fun hne => ?_⟩
    have hpos : 0 < len := by
      rcases Nat.eq_zero_or_pos len with h0 | h0
      · subst h0; simp at hne
      · exact h0
    obtain ⟨b, off, spot⟩ := a
    have hspot : spot = none := by simpa [Addr.add] using World.cell?_spot (hcell 0 (by omega))
    subst hspot
    refine ⟨b, off, rfl, fun i hi => ?_⟩
    rw [hsl] at hi
    have hc := hcell i (by omega)
    rw [Addr.add_lit] at hc
    have : (ss.take len).getD i 0 = ss.getD i 0 := by
      rw [List.getD_eq_getElem?_getD, List.getElem?_take_of_lt hi, ← List.getD_eq_getElem?_getD]
    rw [this]; exact hc
theorem texts_of_trod {H : Type} {enc : TypeId × Value → H} {W : World} {base : Nat} {sp : Nat → Bool} {held : Bool} {fuel : Nat} {v : Value} {x : DataW H × List MemPlace}
    (h : DataW.trod enc Tryd.prog W base sp held fuel 47 [v] = some x) : ∃ ss, TextsAt W v ss := by
  rcases open_strings Tryd.underlying47 Tryd.underlying9 cells_text h with ⟨hcs, hx⟩ | ⟨a, len, cap, ss, hcs, _, hl, hm, hz, hx, hcell, _⟩
  · simp at hcs; subst hcs
    exact ⟨[], none, 0, rfl, by simp, fun h => absurd rfl h⟩
  · simp at hcs; subst hcs
    have hlen : len ≤ ss.length := by rw [hz]; split <;> omega
    have hsl : ((ss.take len).map (·.data.toList)).length = len := by simp; omega
    refine ⟨(ss.take len).map (·.data.toList), some a, cap, by rw [hsl], by rw [hsl]; unfold maxLen at hm; omega, fun hne => ?_⟩
    have hpos : 0 < len := by
      rcases Nat.eq_zero_or_pos len with h0 | h0
      · subst h0; simp at hne
      · exact h0
    obtain ⟨b, off, spot⟩ := a
    have hspot : spot = none := by simpa [Addr.add] using World.cell?_spot (hcell 0 (by omega))
    subst hspot
    refine ⟨b, off, rfl, fun i hi => ?_⟩
    rw [hsl] at hi
    have hc := hcell i (by omega)
    rw [Addr.add_lit] at hc
    have h1 : ((ss.take len).map (·.data.toList)).getD i [] = (ss.getD i ByteArray.empty).data.toList := by
      rw [List.getD_eq_getElem?_getD, List.getElem?_map, List.getElem?_take_of_lt hi, List.getD_eq_getElem?_getD]
      have : i < ss.length := by omega
      simp [this]
    rw [h1]
    show _ = some (Value.string ⟨(ss.getD i ByteArray.empty).data.toList.toArray⟩)
    rw [Lib.mk_data]; exact hc
end
theorem int_lo {x : Int} (h : (Lit.int .i64 x).wf = true) : -9223372036854775808 ≤ x := by have h1 : IntKind.i64.min = -9223372036854775808 := rfl; simp [Lit.wf] at h; omega
theorem int_hi {x : Int} (h : (Lit.int .i64 x).wf = true) : x ≤ 9223372036854775807 := by have h1 : IntKind.i64.max = 9223372036854775807 := rfl; simp [Lit.wf] at h; omega
/-! ### A head among the arguments -/
section
open Go.ChangeShapes Go.WideShapes Go.Deep Go.Joins
variable {H : Type} {enc : TypeId × Value → H} {w : World} {base : Nat} {spare : Nat → Bool} {held : Bool}
theorem three_cells {cs : Array Value} (h : cs.size = 3) : ∃ c0 c1 c2, cs = #[c0, c1, c2] := by
  obtain ⟨l⟩ := cs
  match l, h with
  | [c0, c1, c2], _ => exact ⟨c0, c1, c2, rfl⟩
theorem open_int1 {fuel : Nat} {u : Value} {x : DataW H × List MemPlace} (h : DataW.trod enc Tryd.prog w base spare held fuel 3 [u] = some x) : ∃ n, u = I n := by
  obtain ⟨n, e, _, _⟩ := DataW.trod_int Tryd.underlying3 h
  exact ⟨n, by simpa using e⟩
set_option maxRecDepth 100000 in
theorem open_head {r : Reach} {b0 : Nat} {v : Value} {d : DataW H} {p : List MemPlace} (hv : Value.okWide Tryd.prog w r b0 65 v) (h : DataW.Trod enc Tryd.prog w base spare held 65 v d p) :
    ∃ (st : Int) (ns vs : List (List UInt8)) (nv vv : Value), v = .agg #[I st, nv, vv] ∧ TextsAt w nv ns ∧ TextsAt w vv vs := by
  obtain ⟨cs, ys, n, rfl, hsz, -, -, hf⟩ := open_agg_any Tryd.underlying65 (by kernel_rfl) (by kernel_rfl) hv h
  obtain ⟨c0, c1, c2, rfl⟩ := three_cells hsz
  obtain ⟨u0, y0, e0, -, t0⟩ := hf 0 _ rfl
  obtain ⟨u1, y1, e1, -, t1⟩ := hf 1 _ rfl
  obtain ⟨u2, y2, e2, -, t2⟩ := hf 2 _ rfl
  simp at e0 e1 e2
  subst e0 e1 e2
  obtain ⟨n0, rfl⟩ := open_int1 t0
  obtain ⟨ns, hn⟩ := texts_of_trod t1
  obtain ⟨vs, hv⟩ := texts_of_trod t2
  exact ⟨n0, ns, vs, _, _, rfl, hn, hv⟩
end
end Go.Proofs.YtgdioalhlmnhhaaDoor
