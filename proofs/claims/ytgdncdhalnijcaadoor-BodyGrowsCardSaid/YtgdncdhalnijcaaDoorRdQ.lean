/- Walks and lemmas on the program of this seat, used by its statements; each theorem bears its own conditions. -/
import Derived.Test.YtgdncdhalnijcaaDoorRdP
import Derived.Test.YtgdncdhalnijcaaDoorCards
import Derived.Test.YtgdncdhalnijcaaDoorTie
import Derived.Lib.LaidCaseMet
import Derived.Lib.LaidIn
import Derived.PinnedBridge
import Derived.ProofKit
import Derived.OpenShut
import Derived.Deep.DeepHandedRow
import Derived.Deep.DeepWitnessRowRef
import Derived.SliceStrings
import Derived.Lib.SmallJoins
namespace Go.Proofs.YtgdncdhalnijcaaDoor
open Go.RowKit
set_option linter.unusedVariables false
set_option linter.unusedSimpArgs false
namespace BD
open Go.Lib Go.ChangeShapes Go.WideShapes Go.ChangeAt
/-! ### What the listed variables hold -/
def foldL : List Int := (List.range 128).map foldOf
theorem fold_data {H : Type} : (Rows.laid_unicode_asciiFold : DataW H) = Lib.tabData .u16 foldL := by kernel_rfl
def pairData {H : Type} (x : Int × Int) : DataW H := .agg [.lit (.int .u16 x.1), .lit (.int .u16 x.2)]
theorem orbit_data {H : Type} : (Rows.laid_unicode_caseOrbit : DataW H) = .slice (orbit.map pairData) [] := by kernel_rfl
theorem gFold : Tryd.prog.globalNamed "unicode.asciiFold" = some 0 := by kernel_rfl
theorem gFoldT : (Tryd.prog.globals[0]?).map (·.type) = some 70 := by kernel_rfl
theorem gOrb : Tryd.prog.globalNamed "unicode.caseOrbit" = some 1 := by kernel_rfl
theorem gOrbT : (Tryd.prog.globals[1]?).map (·.type) = some 71 := by kernel_rfl
theorem cells72 : Tryd.prog.cellsOf 70 = 128 := by kernel_rfl
theorem cells71 : Tryd.prog.cellsOf 69 = 1 := by kernel_rfl
theorem cells76 : Tryd.prog.cellsOf 74 = 2 := by kernel_rfl
theorem foldL_get (n : Nat) (h : n < 128) : foldL[n]? = some (foldOf n) := by simp [foldL, h]
theorem fold_of_reads {W : World} (h : VarReads Tryd.prog W "unicode.asciiFold" Rows.laid_unicode_asciiFold) : ∀ n, n < 128 → W.cell? ⟨0, n, none⟩ = some (.int .u16 (foldOf n)) := by
  obtain ⟨g, t, cs, fuel, p, hg, hty, hvar, hd⟩ := h
  obtain rfl := Option.some.inj (gFold.symm.trans hg)
  obtain rfl := Option.some.inj (gFoldT.symm.trans hty)
  rw [fold_data] at hd
  have hc := cells_of_tab Tryd.underlying70 Tryd.underlying69 cells71 cells72 hd
  intro n hn
  rw [World.var?_cell hg hvar n, ← Array.getElem?_toList, hc, List.getElem?_map, foldL_get n hn]
  rfl
theorem orbit_of_reads {W : World} (h : VarReads Tryd.prog W "unicode.caseOrbit" Rows.laid_unicode_caseOrbit) :
    ∃ b off cap, W.cell? ⟨1, 0, none⟩ = some (.slice (some ⟨b, off, none⟩) 94 cap) ∧ ∀ i, (h : i < orbit.length) → W.cell? ⟨b, off + i * 2, none⟩ = some (.int .u16 orbit[i].1) ∧ W.cell? ⟨b, off + i * 2 + 1, none⟩ = some (.int .u16 orbit[i].2) := by
  obtain ⟨g, t, cs, fuel, p, hg, hty, hvar, hd⟩ := h
  obtain rfl := Option.some.inj (gOrb.symm.trans hg)
  obtain rfl := Option.some.inj (gOrbT.symm.trans hty)
  rw [orbit_data] at hd
  rcases DataW.trod_slice Tryd.underlying71 hd with ⟨_, hx'⟩ | ⟨a', len, cap, el, rs, m, rfl, hc0, hx', _, hlc, _, hel, helem, hsp, _⟩
  · cases hx'
  have e0 := congrArg Prod.fst hx'
  simp only [DataW.slice.injEq] at e0
  obtain ⟨eE, eR⟩ := e0
  have hol : orbit.length = 94 := by kernel_rfl
  have hlen : len = orbit.length := by
    have := congrArg List.length eE
    simp at this
    omega
  have hrow : ∀ i, (hi : i < orbit.length) → ∀ j, j < 2 → W.cell? ((a'.add (i * 2)).add j) = ([.int .u16 orbit[i].1, .int .u16 orbit[i].2] : List Value)[j]? := by
    intro i hi j hj
    have h1 := helem i (by omega)
    rw [cells76] at h1
    obtain ⟨b, hb⟩ : ∃ b, el[i]? = some b := ⟨el[i]'(by omega), List.getElem?_eq_getElem (by omega)⟩
    rw [hb] at h1
    obtain ⟨ce, hce, hte⟩ := Option.bind_eq_some_iff.1 h1
    have hb1 : b.1 = pairData orbit[i] := by
      have := congrArg (·[i]?) eE
      simp only [List.getElem?_map, hb, Option.map_some] at this
      rw [List.getElem?_eq_getElem hi] at this
      simp only [Option.map_some, Option.some.injEq] at this
      exact this.symm
    have hcs := ints_of_struct (zs := [orbit[i].1, orbit[i].2]) (k := .u16) (p := b.2) Tryd.underlying74 (by
      intro i f hf
      match i, hf with
      | 0, hf => cases hf; exact ⟨Tryd.underlying69, rfl, cells71⟩
      | 1, hf => cases hf; exact ⟨Tryd.underlying69, rfl, cells71⟩
      | (i + 2), hf => simp at hf) cells76 (by rw [hte]; exact congrArg some (Prod.ext hb1 rfl))
    obtain ⟨_, _, hcc⟩ := World.cells?_some hce
    rw [hcc j hj, hcs]
    rfl
  obtain ⟨R, oR, sR⟩ := a'
  obtain rfl : sR = none := by
    have h00 := hrow 0 (by omega) 0 (by omega)
    have : (Addr.add (Addr.add ⟨R, oR, sR⟩ (0 * 2)) 0) = ⟨R, oR, sR⟩ := by simp [Addr.add]
    rw [this] at h00
    exact Go.Proofs.cell_spot h00
  refine ⟨R, oR, cap, ?_, fun i hi => ?_⟩
  · rw [World.var?_cell hg hvar 0, ← Array.getElem?_toList, hc0, hlen, hol]
    rfl
  · have k0 := hrow i hi 0 (by omega)
    have k1 := hrow i hi 1 (by omega)
    rw [Addr.add_lit, Addr.add_lit] at k0 k1
    exact ⟨by simpa using k0, by simpa using k1⟩
theorem tabs_of_laid {W : World} (h : laidMet Tryd.prog Rows.bodyGrowsRow.laid W) : Tabs W :=
  ⟨fold_of_reads (laidMet.reads h (.tail _ (.head _))), orbit_of_reads (laidMet.reads h (.tail _ (.tail _ (.head _))))⟩
/-! ### The arguments, opened -/
theorem cells9 : Tryd.prog.cellsOf 9 = 1 := by kernel_rfl
theorem cells3 : Tryd.prog.cellsOf 3 = 1 := by kernel_rfl
theorem cells24 : Tryd.prog.cellsOf 24 = 3 := by kernel_rfl
theorem S_of (s : ByteArray) : S s.data.toList = .string s := by show Value.string ⟨s.data.toList.toArray⟩ = _; rw [Lib.mk_data s]
theorem strs_of_trod {H : Type} {enc : TypeId × Value → H} {W : World} {base : Nat} {sp : Nat → Bool} {held : Bool} {fuel : Nat} {v : Value} {x : DataW H × List MemPlace}
    (h : DataW.trod enc Tryd.prog W base sp held fuel 22 [v] = some x) : ∃ ss, StrsAt W v ss ∧ ∀ s ∈ ss, s.length ≤ 9223372036854775807 := by
  rcases open_strings Tryd.underlying22 Tryd.underlying9 cells9 h with ⟨hcs, hx⟩ | ⟨a, len, cap, ss, hcs, _, hl, hm, hz, hx, hcell, hss⟩
  · simp at hcs; subst hcs
    exact ⟨[], ⟨none, 0, rfl, by simp, fun h => absurd rfl h⟩, by simp⟩
  · simp at hcs; subst hcs
    have hlen : len ≤ ss.length := by rw [hz]; split <;> omega
    have hsl : ((ss.take len).map (·.data.toList)).length = len := by simp; omega
    refine ⟨(ss.take len).map (·.data.toList), ⟨some a, cap, by rw [hsl], by rw [hsl]; unfold maxLen at hm; omega, fun hne => ?_⟩, fun s hs => by
      obtain ⟨x, hx, rfl⟩ := List.mem_map.1 hs
      have h1 := hss x (List.mem_of_mem_take hx)
      unfold maxLen at h1
      rw [Lib.size_eq] at h1
      omega⟩
    have hpos : 0 < len := by
      rcases Nat.eq_zero_or_pos len with h0 | h0
      · subst h0; simp at hne
      · exact h0
    obtain ⟨b, off, spot⟩ := a
    have hspot : spot = none := by simpa [Addr.add] using World.cell?_spot (hcell 0 (by omega))
    subst hspot
    refine ⟨b, off, rfl, fun i hi => ?_⟩
    rw [hsl] at hi
    have hc := hcell i (by omega)
    simp only [List.getElem_map, List.getElem_take]
    rw [S_of]
    have hg : ss.getD i ByteArray.empty = ss[i]'(by omega) := by simp [List.getD, show i < ss.length from by omega]
    rw [hg, Addr.add_lit] at hc
    exact hc
theorem ints_of_trod {H : Type} {enc : TypeId × Value → H} {W : World} {base : Nat} {sp : Nat → Bool} {held : Bool} {fuel : Nat} {v : Value} {x : DataW H × List MemPlace}
    (h : DataW.trod enc Tryd.prog W base sp held fuel 25 [v] = some x) : ∃ zs, IntsAt W v zs := by
  rcases open_ints Tryd.underlying25 Tryd.underlying3 cells3 h with ⟨hcs, hx⟩ | ⟨a, len, cap, ss, hcs, _, hl, hm, hz, hx, hcell, hwf⟩
  · simp at hcs; subst hcs
    exact ⟨[], none, 0, rfl, by simp, by simp, fun h => absurd rfl h⟩
  · simp at hcs; subst hcs
    have hlen : len ≤ ss.length := by rw [hz]; split <;> omega
    have hsl : (ss.take len).length = len := by simp; omega
    refine ⟨ss.take len, some a, cap, by rw [hsl], by rw [hsl]; unfold maxLen at hm; omega, fun z hz' => ?_, fun hne => ?_⟩
    · have h1 := hwf z (List.mem_of_mem_take hz')
      simp [Lit.wf, IntKind.min, IntKind.max, IntKind.signed, IntKind.bits] at h1
      omega
    have hpos : 0 < len := by
      rcases Nat.eq_zero_or_pos len with h0 | h0
      · subst h0; simp at hne
      · exact h0
    obtain ⟨b, off, spot⟩ := a
    have hspot : spot = none := by simpa [Addr.add] using World.cell?_spot (hcell 0 (by omega))
    subst hspot
    refine ⟨b, off, rfl, fun i hi => ?_⟩
    rw [hsl] at hi
    have hc := hcell i (by omega)
    simp only [List.getElem_take]
    have hg : ss.getD i 0 = ss[i]'(by omega) := by simp [List.getD, show i < ss.length from by omega]
    rw [hg, Addr.add_lit] at hc
    exact hc
/-- A head that came in. -/
theorem head_of_trod {H : Type} {enc : TypeId × Value → H} {W : World} {base b0 : Nat} {r : Reach} {sp : Nat → Bool} {held : Bool} {v : Value} {d : DataW H} {p : List MemPlace} (hv : Value.okWide Tryd.prog W r b0 24 v)
    (h : DataW.Trod enc Tryd.prog W base sp held 24 v d p) : ∃ st nv vv names values, v = .agg #[I st, nv, vv] ∧ StrsAt W nv names ∧ StrsAt W vv values ∧ ∀ s ∈ values, s.length ≤ 9223372036854775807 := by
  obtain ⟨v0, v1, v2, y0, y1, y2, n, rfl, rfl, rfl, h0, h1, h2⟩ := Joins.open_agg3 Tryd.underlying24 (by kernel_rfl) cells24 hv h
  obtain ⟨st, e0, rfl, _⟩ := DataW.trod_int Tryd.underlying3 h0
  simp at e0; subst e0
  obtain ⟨names, hn, _⟩ := strs_of_trod h1
  obtain ⟨values, hv2, hvs⟩ := strs_of_trod h2
  exact ⟨st, v1, v2, names, values, rfl, hn, hv2, hvs⟩
/-! ### The row -/
theorem own : ownKnob Tryd.prog.godebug = none := by kernel_rfl
theorem laidOut : laidOutB Tryd.prog = true := by kernel_rfl
/-- THE WITNESS: the settled world with two blocks more (the orbit's pairs, the case ranges' rows), the five variables holding what their initialisers lay. -/
noncomputable def laidWorld (os : Os) : World :=
  let N := (World.settled Tryd.prog os).heap.size
  let w0 := World.holding Tryd.prog os ⟨#[.cells (orbit.flatMap fun x => [Value.int .u16 x.1, Value.int .u16 x.2]).toArray 74, .cells Lib.caseCells5 89], #[], []⟩
  let put (h : Array Obj) (g : Nat) (cs : Array Value) : Array Obj := h.modify g fun
    | .cells _ t frozen => .cells cs t frozen
    | o => o
  let h1 := put w0.heap 0 (foldL.map fun z => Value.int .u16 z).toArray
  let h2 := put h1 1 #[.slice (some ⟨N, 0, none⟩) 94 94]
  let h3 := put h2 2 #[.slice (some ⟨N + 1, 0, none⟩) 336 336]
  let h4 := put h3 3 (Lib.firstTab.map fun z => Value.int .u8 z).toArray
  let h5 := put h4 4 ((List.range 16).flatMap fun i => [Value.int .u8 (Lib.accLo i), Value.int .u8 (Lib.accHi i)]).toArray
  { w0 with heap := h5 }
theorem laid_a (os : Os) (args : Array Value) : LaidIn Tryd.prog ((laidWorld os).forCall (fun _ _ => 0) ⟨#[], args, []⟩).memory [("unicode/utf8.acceptRanges", Rows.laid_unicode_utf8_acceptRanges), ("unicode.asciiFold", Rows.laid_unicode_asciiFold), ("unicode.caseOrbit", Rows.laid_unicode_caseOrbit)] [4, 0, 1, (World.settled Tryd.prog default).heap.size] :=
  LaidIn.of_run _ 10 (by kernel_rfl) (by kernel_rfl) (by kernel_rfl) (by kernel_rfl)
theorem laid_c (os : Os) (args : Array Value) : LaidIn Tryd.prog ((laidWorld os).forCall (fun _ _ => 0) ⟨#[], args, []⟩).memory [("unicode/utf8.first", Rows.laid_unicode_utf8_first)] [3] :=
  LaidIn.of_run _ 10 (by kernel_rfl) (by kernel_rfl) (by kernel_rfl) (by kernel_rfl)
def renC : Go.Shelf.Ren := ⟨Tryd.lays274_ren.f, Tryd.lays274_ren.t, fun | 13 => 2 | n => n⟩
theorem laysC : Go.Proofs.Lays.n274 Tryd.prog renC := { Tryd.lays274 with }
theorem extraC : Go.Proofs.CaseExtra Tryd.prog renC := ⟨by kernel_rfl, by kernel_rfl, by kernel_rfl, by kernel_rfl, by kernel_rfl, by kernel_rfl⟩
theorem laid_b (os : Os) (args : Array Value) : LaidIn Tryd.prog ((laidWorld os).forCall (fun _ _ => 0) ⟨#[], args, []⟩).memory [("unicode.CaseRanges", Rows.laid_unicode_CaseRanges)] [2, (World.settled Tryd.prog default).heap.size + 1] := by
  have hvar : ((laidWorld os).forCall (fun _ _ => 0) ⟨#[], args, []⟩).memory.heap[2]? = some (.cells #[.slice (some ⟨(World.settled Tryd.prog default).heap.size + 1, 0, none⟩) Lib.caseA.size Lib.caseA.size] 77 (0, 0)) := by kernel_rfl
  have hblk : ((laidWorld os).forCall (fun _ _ => 0) ⟨#[], args, []⟩).memory.heap[(World.settled Tryd.prog default).heap.size + 1]? = some (.cells Lib.caseCells5 89 (0, 0)) := by kernel_rfl
  have hgR : (2 : Nat) ≠ (World.settled Tryd.prog default).heap.size + 1 := of_decide_eq_true (by kernel_rfl)
  generalize ((laidWorld os).forCall (fun _ _ => 0) ⟨#[], args, []⟩).memory = w at *
  generalize (World.settled Tryd.prog default).heap.size + 1 = R at *
  have hT := Go.Proofs.caseTab_of_block hblk
  have hread := Go.Proofs.case_slice_reads laysC Tryd.underlying87 extraC hT Go.Proofs.caseA_wf (by rw [Lib.caseA_size]; unfold maxLen; omega) 0
  rw [Go.Proofs.case_rows_data] at hread
  have hd : Rows.laid_unicode_CaseRanges = Lib.caseData := Pinned.caseRanges_eq
  rw [hd]
  refine LaidIn.one (g := 2) (t := 77) (cs := #[.slice (some ⟨R, 0, none⟩) Lib.caseA.size Lib.caseA.size]) _ (by kernel_rfl) (by kernel_rfl) (by simp [World.var?, show Tryd.prog.globalNamed "unicode.CaseRanges" = some 2 by kernel_rfl, hvar]) hread ?_ ?_ ?_
  · refine List.nodup_append.2 ⟨rowP_nodup _ _, rowP_nodup _ _, ?_⟩
    intro a ha b hb e
    obtain ⟨i, _, rfl⟩ := MemPlace.mem_row.1 ha
    obtain ⟨j, _, rfl⟩ := MemPlace.mem_row.1 hb
    simp at e
    exact hgR e.1
  · intro b off hp
    rcases List.mem_append.1 hp with hp | hp
    · obtain ⟨i, hi, e⟩ := MemPlace.mem_row.1 hp
      cases e
      refine ⟨⟨_, _, hvar⟩, fun u v hc => ?_⟩
      obtain rfl : i = 0 := by simp at hi; omega
      rw [Lib.cell_of_heap hvar] at hc
      simp at hc
    · obtain ⟨i, hi, e⟩ := MemPlace.mem_row.1 hp
      cases e
      refine ⟨⟨_, _, hblk⟩, fun u v hc => ?_⟩
      obtain ⟨c0, c1, c2, c3, c4⟩ := hT (i / 5) (by omega)
      have hi5 : 0 + i = 0 + i / 5 * 5 + i % 5 := by omega
      simp only at hc
      rw [hi5] at hc
      have hm : i % 5 < 5 := Nat.mod_lt _ (by omega)
      match hk : i % 5, hm with
      | 0, _ => rw [hk, Nat.add_zero, c0] at hc; cases hc
      | 1, _ => rw [hk, c1] at hc; cases hc
      | 2, _ => rw [hk, c2] at hc; cases hc
      | 3, _ => rw [hk, c3] at hc; cases hc
      | 4, _ => rw [hk, c4] at hc; cases hc
  · intro x hx
    rcases List.mem_append.1 hx with hx | hx
    · obtain ⟨i, _, rfl⟩ := MemPlace.mem_row.1 hx; exact .head _
    · obtain ⟨i, _, rfl⟩ := MemPlace.mem_row.1 hx; exact .tail _ (.head _)
theorem laid_met (os : Os) (args : Array Value) : laidMet Tryd.prog Rows.bodyGrowsRow.laid ((laidWorld os).forCall (fun _ _ => 0) ⟨#[], args, []⟩).memory :=
  (LaidIn.append (LaidIn.append (laid_a os args) (laid_b os args) (by kernel_rfl)) (laid_c os args) (by kernel_rfl)).met
end BD
end Go.Proofs.YtgdncdhalnijcaaDoor
