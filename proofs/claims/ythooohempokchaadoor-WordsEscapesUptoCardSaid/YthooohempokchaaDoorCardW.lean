/- Walks and lemmas on the program of this seat, used by its statements; each theorem bears its own conditions. -/
import Derived.Test.YthooohempokchaaDoorLawB
import Derived.Test.YthooohempokchaaDoorCards
import Derived.Test.YthooohempokchaaDoorTie
import Derived.Lib.LaidIn
import Derived.PinnedBridge
import Derived.ProofKit
import Derived.OpenShut
import Derived.Deep.DeepHandedRow
import Derived.Deep.DeepWitnessRowRef
import Derived.SliceStrings
import Derived.Lib.SmallJoins
import Derived.Lib.LaidU8T
namespace Go.Proofs.YthooohempokchaaDoor
open Go.RowKit
set_option linter.unusedVariables false
set_option linter.unusedSimpArgs false
open Go.Lib Go.ChangeShapes Go.WideShapes Go.ChangeAt
/-! ### The row: what the listed variables hold; the witness -/
theorem own : ownKnob Tryd.prog.godebug = none := by kernel_rfl
theorem laidOut : laidOutB Tryd.prog = true := by kernel_rfl
noncomputable def laidWorld (os : Os) : World :=
  let w0 := World.holding Tryd.prog os ⟨#[], #[], []⟩
  let put (h : Array Obj) (g : Nat) (cs : Array Value) : Array Obj := h.modify g fun
    | .cells _ t frozen => .cells cs t frozen
    | o => o
  let h4 := put w0.heap 0 (Lib.firstTab.map fun z => Value.int .u8 z).toArray
  let h5 := put h4 1 ((List.range 16).flatMap fun i => [Value.int .u8 (Lib.accLo i), Value.int .u8 (Lib.accHi i)]).toArray
  { w0 with heap := h5 }
theorem laid_a (os : Os) (args : Array Value) : LaidIn Tryd.prog ((laidWorld os).forCall (fun _ _ => 0) ⟨#[], args, []⟩).memory [("unicode/utf8.acceptRanges", Rows.laid_unicode_utf8_acceptRanges)] [1] :=
  LaidIn.of_run _ 10 (by kernel_rfl) (by kernel_rfl) (by kernel_rfl) (by kernel_rfl)
theorem laid_b (os : Os) (args : Array Value) : LaidIn Tryd.prog ((laidWorld os).forCall (fun _ _ => 0) ⟨#[], args, []⟩).memory [("unicode/utf8.first", Rows.laid_unicode_utf8_first)] [0] :=
  LaidIn.of_run _ 10 (by kernel_rfl) (by kernel_rfl) (by kernel_rfl) (by kernel_rfl)
theorem laid_met (os : Os) (args : Array Value) : laidMet Tryd.prog [("unicode/utf8.acceptRanges", Rows.laid_unicode_utf8_acceptRanges), ("unicode/utf8.first", Rows.laid_unicode_utf8_first)] ((laidWorld os).forCall (fun _ _ => 0) ⟨#[], args, []⟩).memory :=
  (LaidIn.append (laid_a os args) (laid_b os args) (by kernel_rfl)).met
theorem accept_data : (Rows.laid_unicode_utf8_acceptRanges : DataW Unit) = acceptData := by kernel_rfl
theorem tabs_of_laid {W : World} (h : laidMetH Tryd.prog [("unicode/utf8.acceptRanges", Rows.laid_unicode_utf8_acceptRanges), ("unicode/utf8.first", Rows.laid_unicode_utf8_first)] W) (hs : W.ShapedOpen Tryd.prog) : Tabs W := by
  refine ⟨?_, Tryd.laysM146.s1_3 W hs⟩
  have h1 := Lib.laidMet.reads h (.head _)
  have h2 := Lib.laidMet.reads h (.tail _ (.head _))
  rw [accept_data] at h1
  rw [show Rows.laid_unicode_utf8_first = firstData from Pinned.utf8First_eq] at h2
  exact utf8Tabs_of_readsT (U8Types.of196 Tryd.lays196) ⟨by kernel_rfl, by kernel_rfl, by kernel_rfl, by kernel_rfl, by kernel_rfl, by kernel_rfl, by kernel_rfl⟩ h2 h1
theorem cells_str : Tryd.prog.cellsOf 9 = 1 := by kernel_rfl
theorem S_of (s : ByteArray) : S s.data.toList = .string s := by show Value.string ⟨s.data.toList.toArray⟩ = _; rw [Lib.mk_data s]
theorem bulk_part {H : Type} {d : DataW H} {l : List (DataW H)} (h : d ∈ l) : Rows.uptoBulk d ≤ Rows.uptoBulkAll l := by
  induction l with
  | nil => cases h
  | cons x r ih =>
    simp only [Rows.uptoBulkAll]
    cases List.mem_cons.1 h with
    | inl e => subst e; omega
    | inr e => have := ih e; omega
theorem bulk_one {H : Type} (d : DataW H) : 1 ≤ Rows.uptoBulk d := by
  cases d with
  | lit l => cases l <;> simp [Rows.uptoBulk]
  | nil => simp [Rows.uptoBulk]
  | ptr d => simp [Rows.uptoBulk]
  | slice elems spare => simp [Rows.uptoBulk]
  | agg parts => simp [Rows.uptoBulk]
  | iface t d => simp [Rows.uptoBulk]
  | map entries => simp [Rows.uptoBulk]
  | held x => simp [Rows.uptoBulk]
theorem bulk_len {H : Type} (l : List (DataW H)) : l.length ≤ Rows.uptoBulkAll l := by
  induction l with
  | nil => simp [Rows.uptoBulkAll]
  | cons x r ih => have := bulk_one x; simp only [Rows.uptoBulkAll, List.length_cons]; omega
theorem bulk_str {H : Type} (bytes : List UInt8) : Rows.uptoBulk (DataW.lit (H := H) (.string bytes)) = bytes.length + 1 := by simp [Rows.uptoBulk]
theorem bulk_bound {H : Type} {l : List (DataW H)} (hk : Rows.uptoSmall H l = true) : Rows.uptoBulkAll l ≤ 1048576 := of_decide_eq_true hk
theorem bulk_slice {H : Type} (a b : List (DataW H)) : Rows.uptoBulk (.slice a b) = Rows.uptoBulkAll a + Rows.uptoBulkAll b + 1 := by simp [Rows.uptoBulk]
theorem strs_of_trod {H : Type} {enc : TypeId × Value → H} {W : World} {base : Nat} {held : Bool} {fuel : Nat} {v : Value} {x : DataW H × List MemPlace}
    (h : DataW.trod enc Tryd.prog W base (fun _ => true) held fuel 24 [v] = some x) (hb : Rows.uptoBulk x.1 ≤ 1048576) : ∃ ss, StrsAt W v ss ∧ (∀ s ∈ ss, s.length ≤ 1048576) ∧ ss.length ≤ 1048576 := by
  rcases open_strings Tryd.underlying24 Tryd.underlying9 cells_str h with ⟨hcs, hx⟩ | ⟨a, len, cap, ss, hcs, _, hl, hm, hz, hx, hcell, _⟩
  · simp at hcs; subst hcs
    exact ⟨[], StrsAt.nil W, by simp, by simp⟩
  · simp at hcs; subst hcs
    have hz' : ss.length = cap := by simpa using hz
    rw [hx] at hb
    simp only [bulk_slice] at hb
    have b1 := bulk_len (strs (H := H) (ss.take len))
    have b2 := bulk_len (strs (H := H) (ss.drop len))
    have l1 : (strs (H := H) (ss.take len)).length = len := by simp [strs]; omega
    have l2 : (strs (H := H) (ss.drop len)).length = cap - len := by simp [strs]; omega
    have hsl : ((ss.take len).map (·.data.toList)).length = len := by simp; omega
    refine ⟨(ss.take len).map (·.data.toList), ⟨some a, cap, by rw [hsl], by rw [hsl]; exact hl, by rw [hsl]; omega, (fun h => by cases h), fun hne => ?_⟩, fun s hs => ?_, by rw [hsl]; omega⟩
    · have hpos : 0 < len := by
        rcases Nat.eq_zero_or_pos len with h0 | h0
        · subst h0; simp at hne
        · exact h0
      obtain ⟨b, off, spot⟩ := a
      have hspot : spot = none := by simpa [Addr.add] using World.cell?_spot (hcell 0 (by omega))
      subst hspot
      refine ⟨b, off, rfl, fun i hi => ?_⟩
      rw [hsl] at hi
      have hc := hcell i (by omega)
      have hg : ss.getD i ByteArray.empty = ss[i]'(by omega) := by simp [List.getD, show i < ss.length from by omega]
      rw [hg, Addr.add_lit] at hc
      rw [getD_eq _ _ _ (by rw [hsl]; exact hi)]
      simp only [List.getElem_map, List.getElem_take]
      rw [S_of]
      exact hc
    · obtain ⟨t, ht, rfl⟩ := List.mem_map.1 hs
      have : Rows.uptoBulk (DataW.lit (H := H) (.string t.data.toList)) ≤ Rows.uptoBulkAll (strs (H := H) (ss.take len)) := bulk_part (List.mem_map.2 ⟨t, ht, rfl⟩)
      rw [bulk_str] at this
      omega
end Go.Proofs.YthooohempokchaaDoor
