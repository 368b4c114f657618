/- Walks and lemmas on the program of this seat, used by its statements; each theorem bears its own conditions. -/
import Derived.Test.YtgdioalhlmnhhaaDoorHRT
namespace Go.Proofs.YtgdioalhlmnhhaaDoor
open Go.RowKit
set_option linter.unusedVariables false
set_option linter.unusedSimpArgs false
section
open Go.Lib Go.ChangeShapes Go.WideShapes Go.ChangeAt Go.Joins
theorem cells_int : Tryd.prog.cellsOf 3 = 1 := by kernel_rfl
theorem cells_text : Tryd.prog.cellsOf 9 = 1 := by kernel_rfl
theorem ints_of_trod {H : Type} {enc : TypeId × Value → H} {W : World} {base : Nat} {sp : Nat → Bool} {held : Bool} {fuel : Nat} {v : Value} {x : DataW H × List MemPlace}
    (h : DataW.trod enc Tryd.prog W base sp held fuel 33 [v] = some x) : ∃ zs, IntsAt W v zs := by
  rcases open_ints Tryd.underlying33 Tryd.underlying3 cells_int h with ⟨hcs, hx⟩ | ⟨a, len, cap, ss, hcs, _, hl, hm, hz, hx, hcell, hwf⟩
  · simp at hcs; subst hcs
    exact ⟨[], none, 0, rfl, by simp, fun h => absurd rfl h⟩
  · simp at hcs; subst hcs
    have hlen : len ≤ ss.length := by rw [hz]; split <;> omega
    have hsl : (ss.take len).length = len := by simp; omega
    refine ⟨ss.take len, some a, cap, by rw [hsl], by rw [hsl]; unfold maxLen at hm; omega, fun hne => ?_⟩
    have hpos : 0 < len := by
      rcases Nat.eq_zero_or_pos len with h0 | h0
      · subst h0; simp at hne
      · exact h0
    obtain ⟨b, off, spot⟩ := a
    have hspot : spot = none := by simpa [Addr.add] using World.cell?_spot (hcell 0 (by omega))
    subst hspot
    refine ⟨b, off, rfl, fun i hi => ?_⟩
    rw [hsl] at hi
    have hc := hcell i (by omega)
    rw [Addr.add_lit] at hc
    have : (ss.take len).getD i 0 = ss.getD i 0 := by
      rw [List.getD_eq_getElem?_getD, List.getElem?_take_of_lt hi, ← List.getD_eq_getElem?_getD]
    rw [this]; exact hc
theorem texts_of_trod {H : Type} {enc : TypeId × Value → H} {W : World} {base : Nat} {sp : Nat → Bool} {held : Bool} {fuel : Nat} {v : Value} {x : DataW H × List MemPlace}
    (h : DataW.trod enc Tryd.prog W base sp held fuel 47 [v] = some x) : ∃ ss, TextsAt W v ss := by
  rcases open_strings Tryd.underlying47 Tryd.underlying9 cells_text h with ⟨hcs, hx⟩ | ⟨a, len, cap, ss, hcs, _, hl, hm, hz, hx, hcell, _⟩
  · simp at hcs; subst hcs
    exact ⟨[], none, 0, rfl, by simp, fun h => absurd rfl h⟩
  · simp at hcs; subst hcs
    have hlen : len ≤ ss.length := by rw [hz]; split <;> omega
    have hsl : ((ss.take len).map (·.data.toList)).length = len := by simp; omega
    refine ⟨(ss.take len).map (·.data.toList), some a, cap, by rw [hsl], by rw [hsl]; unfold maxLen at hm; omega, fun hne => ?_⟩
    have hpos : 0 < len := by
      rcases Nat.eq_zero_or_pos len with h0 | h0
      · subst h0; simp at hne
      · exact h0
    obtain ⟨b, off, spot⟩ := a
    have hspot : spot = none := by simpa [Addr.add] using World.cell?_spot (hcell 0 (by omega))
    subst hspot
    refine ⟨b, off, rfl, fun i hi => ?_⟩
    rw [hsl] at hi
    have hc := hcell i (by omega)
    rw [Addr.add_lit] at hc
    have h1 : ((ss.take len).map (·.data.toList)).getD i [] = (ss.getD i ByteArray.empty).data.toList := by
      rw [List.getD_eq_getElem?_getD, List.getElem?_map, List.getElem?_take_of_lt hi, List.getD_eq_getElem?_getD]
      have : i < ss.length := by omega
      simp [this]
    rw [h1]
    show _ = some (Value.string ⟨(ss.getD i ByteArray.empty).data.toList.toArray⟩)
    rw [Lib.mk_data]; exact hc
end
theorem int_lo {x : Int} (h : (Lit.int .i64 x).wf = true) : -9223372036854775808 ≤ x := by have h1 : IntKind.i64.min = -9223372036854775808 := rfl; simp [Lit.wf] at h; omega
theorem int_hi {x : Int} (h : (Lit.int .i64 x).wf = true) : x ≤ 9223372036854775807 := by have h1 : IntKind.i64.max = 9223372036854775807 := rfl; simp [Lit.wf] at h; omega
/-! ### A header among the arguments -/
section
open Go.Lib Go.ChangeShapes Go.WideShapes Go.Deep Go.Joins Go.ChangeAt
variable {H : Type} {enc : TypeId × Value → H} {w : World} {base : Nat} {spare : Nat → Bool} {held : Bool}
theorem three_cells {cs : Array Value} (h : cs.size = 3) : ∃ c0 c1 c2, cs = #[c0, c1, c2] := by
  obtain ⟨l⟩ := cs
  match l, h with
  | [c0, c1, c2], _ => exact ⟨c0, c1, c2, rfl⟩
theorem three_list {α : Type} {l : List α} (h : l.length = 3) : ∃ a b c, l = [a, b, c] := by
  match l, h with
  | [a, b, c], _ => exact ⟨a, b, c, rfl⟩
theorem weightsAll_mem {P : Program} {e : TypeId} {d : DataW H} {n : Nat} (hn : n ∈ d.weights P e) : ∀ l : List (DataW H), d ∈ l → n ∈ DataW.weightsAll P e l
  | [], h => by cases h
  | x :: r, h => by
    simp only [DataW.weightsAll, List.mem_append]
    rcases List.mem_cons.1 h with rfl | h
    · exact .inl hn
    · exact .inr (weightsAll_mem hn r h)
theorem texts_of_trod2 {fuel : Nat} {v : Value} {x : DataW H × List MemPlace} (h : DataW.trod enc Tryd.prog w base spare held fuel 47 [v] = some x) :
    ∃ ss, TextsAt w v ss ∧ ∀ s ∈ ss, s.length ∈ DataW.weights Tryd.prog 47 x.1 := by
  rcases open_strings Tryd.underlying47 Tryd.underlying9 cells_text h with ⟨hcs, hx⟩ | ⟨a, len, cap, ss, hcs, _, hl, hm, hz, hx, hcell, _⟩
  · simp at hcs; subst hcs
    exact ⟨[], ⟨none, 0, rfl, by simp, fun h => absurd rfl h⟩, by simp⟩
  · simp at hcs; subst hcs
    have hlen : len ≤ ss.length := by rw [hz]; split <;> omega
    have hsl : ((ss.take len).map (·.data.toList)).length = len := by simp; omega
    refine ⟨(ss.take len).map (·.data.toList), ⟨some a, cap, by rw [hsl], by rw [hsl]; unfold maxLen at hm; omega, fun hne => ?_⟩, fun s hs => ?_⟩
    · have hpos : 0 < len := by
        rcases Nat.eq_zero_or_pos len with h0 | h0
        · subst h0; simp at hne
        · exact h0
      obtain ⟨b, off, spot⟩ := a
      have hspot : spot = none := by simpa [Addr.add] using World.cell?_spot (hcell 0 (by omega))
      subst hspot
      refine ⟨b, off, rfl, fun i hi => ?_⟩
      rw [hsl] at hi
      have hc := hcell i (by omega)
      rw [Addr.add_lit] at hc
      have h1 : ((ss.take len).map (·.data.toList)).getD i [] = (ss.getD i ByteArray.empty).data.toList := by
        rw [List.getD_eq_getElem?_getD, List.getElem?_map, List.getElem?_take_of_lt hi, List.getD_eq_getElem?_getD]
        have : i < ss.length := by omega
        simp [this]
      rw [h1]
      show _ = some (Value.string ⟨(ss.getD i ByteArray.empty).data.toList.toArray⟩)
      rw [Lib.mk_data]; exact hc
    · obtain ⟨t, ht, rfl⟩ := List.mem_map.1 hs
      rw [hx]
      simp only [DataW.weights, Tryd.underlying47, List.mem_cons, List.mem_append]
      refine .inr (.inl (weightsAll_mem (d := .lit (.string t.data.toList)) (by simp [DataW.weights]) _ ?_))
      exact List.mem_map.2 ⟨t, ht, rfl⟩
theorem open_int1 {fuel : Nat} {u : Value} {x : DataW H × List MemPlace} (h : DataW.trod enc Tryd.prog w base spare held fuel 3 [u] = some x) : ∃ n, u = I n ∧ (Lit.int .i64 n).wf = true := by
  obtain ⟨n, e, _, hw⟩ := DataW.trod_int Tryd.underlying3 h
  exact ⟨n, by simpa using e, by first | exact hw.1 | exact hw | simpa using hw⟩
theorem open_str1 {fuel : Nat} {u : Value} {x : DataW H × List MemPlace} (h : DataW.trod enc Tryd.prog w base spare held fuel 9 [u] = some x) : ∃ l, u = S l ∧ x.1 = .lit (.string l) := by
  obtain ⟨s, e, hx, _⟩ := DataW.trod_string Tryd.underlying9 h
  refine ⟨s.data.toList, ?_, ?_⟩
  · rw [S_of]; simpa using e
  · rw [hx]
set_option maxRecDepth 100000 in
theorem open_hdr {r : Reach} {b0 : Nat} {v : Value} {d : DataW H} {p : List MemPlace} (hv : Value.okWide Tryd.prog w r b0 53 v) (h : DataW.Trod enc Tryd.prog w base spare held 53 v d p) :
    ∃ (nm : List UInt8) (ds : List (List UInt8)) (sz : Int) (dv : Value), v = .agg #[S nm, dv, I sz] ∧ TextsAt w dv ds ∧ -9223372036854775808 ≤ sz ∧ sz ≤ 9223372036854775807 ∧ nm.length ∈ d.weights Tryd.prog 53 ∧ ∀ x ∈ ds, x.length ∈ d.weights Tryd.prog 53 := by
  obtain ⟨cs, ys, n, rfl, hsz, hd, hyl, hf⟩ := open_agg_any Tryd.underlying53 (by kernel_rfl) (by kernel_rfl) hv h
  obtain ⟨c0, c1, c2, rfl⟩ := three_cells hsz
  obtain ⟨z0, z1, z2, rfl⟩ := three_list (show ys.length = 3 from hyl)
  obtain ⟨u0, y0, e0, f0, t0⟩ := hf 0 _ rfl
  obtain ⟨u1, y1, e1, f1, t1⟩ := hf 1 _ rfl
  obtain ⟨u2, y2, e2, f2, t2⟩ := hf 2 _ rfl
  simp at e0 e1 e2 f0 f1 f2
  subst e0 e1 e2 f0 f1 f2
  obtain ⟨nm, rfl, hn⟩ := open_str1 t0
  obtain ⟨ds, hds, hw⟩ := texts_of_trod2 t1
  obtain ⟨sz, rfl, hz⟩ := open_int1 t2
  refine ⟨nm, ds, sz, _, rfl, hds, int_lo hz, int_hi hz, ?_, fun x hx => ?_⟩
  · subst hd
    simp only [DataW.weights, Tryd.underlying53, List.map_cons, List.map_nil, DataW.weightsEach, List.mem_append]
    left; rw [hn]; simp [DataW.weights]
  · subst hd
    simp only [DataW.weights, Tryd.underlying53, List.map_cons, List.map_nil, DataW.weightsEach, List.mem_append]
    right; left; exact hw x hx
theorem sized_part {P : Program} {ts : List TypeId} {ds : List (DataW H)} {j : Nat} {t : TypeId} {d : DataW H} {n : Nat} (h : (DataW.weightsEach P ts ds).all (· ≤ reachBytes) = true) (ht : ts[j]? = some t) (hd : ds[j]? = some d) (hn : n ∈ d.weights P t) : n ≤ 4611686018427387904 := by
  have h1 := List.all_eq_true.1 h _ (DataW.weights_mem_each ht hd n hn)
  have h2 := reachBytes_lt
  simp at h1; omega
end
end Go.Proofs.YtgdioalhlmnhhaaDoor
