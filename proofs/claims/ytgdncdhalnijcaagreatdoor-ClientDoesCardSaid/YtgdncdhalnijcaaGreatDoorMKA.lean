/- Walks and lemmas on the program of this seat, used by its statements; each theorem bears its own conditions. -/
import Derived.Test.YtgdncdhalnijcaaGreatDoorMCX
import Derived.Test.YtgdncdhalnijcaaGreatDoorMRL
import Derived.Test.YtgdncdhalnijcaaGreatDoorCards
import Derived.Test.YtgdncdhalnijcaaGreatDoorTie
import Derived.Test.YtgdncdhalnijcaaGreatDoorShelf
import Derived.Lib.LaidIn
import Derived.PinnedBridge
import Derived.ProofKit
import Derived.OpenShut
import Derived.Deep.DeepHandedRow
import Derived.Deep.DeepWitnessRowRef
import Derived.SliceStrings
import Derived.Lib.SmallJoins
import Derived.Lib.LaidU8T
import Derived.LaidMore
import Derived.Deep.DeepLaidRun
import Derived.Stop.LaidErr
import Derived.Lib.LaidTab
import Derived.Deep.Slices
import Derived.Deep.Fields
import Derived.ChangeSame
import Derived.Lib.LaidCaseMet
namespace Go.Proofs.YtgdncdhalnijcaaGreatDoor
open Go.RowKit
set_option linter.unusedVariables false
set_option linter.unusedSimpArgs false
section
namespace BD
open Go.Lib Go.ChangeShapes Go.WideShapes Go.ChangeAt
/-! ### What the listed variables hold -/
def foldL : List Int := (List.range 128).map foldOf
theorem fold_data {H : Type} : (Rows.laid_unicode_asciiFold : DataW H) = Lib.tabData .u16 foldL := by kernel_rfl
def pairData {H : Type} (x : Int × Int) : DataW H := .agg [.lit (.int .u16 x.1), .lit (.int .u16 x.2)]
theorem orbit_data {H : Type} : (Rows.laid_unicode_caseOrbit : DataW H) = .slice (orbit.map pairData) [] := by kernel_rfl
theorem gFold : Tryz.prog.globalNamed "unicode.asciiFold" = some 1 := by kernel_rfl
theorem gFoldT : (Tryz.prog.globals[1]?).map (·.type) = some 153 := by kernel_rfl
theorem gOrb : Tryz.prog.globalNamed "unicode.caseOrbit" = some 2 := by kernel_rfl
theorem gOrbT : (Tryz.prog.globals[2]?).map (·.type) = some 154 := by kernel_rfl
theorem cells72 : Tryz.prog.cellsOf 153 = 128 := by kernel_rfl
theorem cells71 : Tryz.prog.cellsOf 152 = 1 := by kernel_rfl
theorem cells76 : Tryz.prog.cellsOf 156 = 2 := by kernel_rfl
theorem foldL_get (n : Nat) (h : n < 128) : foldL[n]? = some (foldOf n) := by simp [foldL, h]
theorem fold_of_reads {W : World} (h : VarReads Tryz.prog W "unicode.asciiFold" Rows.laid_unicode_asciiFold) : ∀ n, n < 128 → W.cell? ⟨1, n, none⟩ = some (.int .u16 (foldOf n)) := by
  obtain ⟨g, t, cs, fuel, p, hg, hty, hvar, hd⟩ := h
  obtain rfl := Option.some.inj (gFold.symm.trans hg)
  obtain rfl := Option.some.inj (gFoldT.symm.trans hty)
  rw [fold_data] at hd
  have hc := cells_of_tab Tryz.underlying153 Tryz.underlying152 cells71 cells72 hd
  intro n hn
  rw [World.var?_cell hg hvar n, ← Array.getElem?_toList, hc, List.getElem?_map, foldL_get n hn]
  rfl
theorem orbit_of_reads {W : World} (h : VarReads Tryz.prog W "unicode.caseOrbit" Rows.laid_unicode_caseOrbit) :
    ∃ b off cap, W.cell? ⟨2, 0, none⟩ = some (.slice (some ⟨b, off, none⟩) 94 cap) ∧ ∀ i, (h : i < orbit.length) → W.cell? ⟨b, off + i * 2, none⟩ = some (.int .u16 orbit[i].1) ∧ W.cell? ⟨b, off + i * 2 + 1, none⟩ = some (.int .u16 orbit[i].2) := by
  obtain ⟨g, t, cs, fuel, p, hg, hty, hvar, hd⟩ := h
  obtain rfl := Option.some.inj (gOrb.symm.trans hg)
  obtain rfl := Option.some.inj (gOrbT.symm.trans hty)
  rw [orbit_data] at hd
  rcases DataW.trod_slice Tryz.underlying154 hd with ⟨_, hx'⟩ | ⟨a', len, cap, el, rs, m, rfl, hc0, hx', _, hlc, _, hel, helem, hsp, _⟩
  · cases hx'
  have e0 := congrArg Prod.fst hx'
  simp only [DataW.slice.injEq] at e0
  obtain ⟨eE, eR⟩ := e0
  have hol : orbit.length = 94 := by kernel_rfl
  have hlen : len = orbit.length := by
    have := congrArg List.length eE
    simp at this
    omega
  have hrow : ∀ i, (hi : i < orbit.length) → ∀ j, j < 2 → W.cell? ((a'.add (i * 2)).add j) = ([.int .u16 orbit[i].1, .int .u16 orbit[i].2] : List Value)[j]? := by
    intro i hi j hj
    have h1 := helem i (by omega)
    rw [cells76] at h1
    obtain ⟨b, hb⟩ : ∃ b, el[i]? = some b := ⟨el[i]'(by omega), List.getElem?_eq_getElem (by omega)⟩
    rw [hb] at h1
    obtain ⟨ce, hce, hte⟩ := Option.bind_eq_some_iff.1 h1
    have hb1 : b.1 = pairData orbit[i] := by
      have := congrArg (·[i]?) eE
      simp only [List.getElem?_map, hb, Option.map_some] at this
      rw [List.getElem?_eq_getElem hi] at this
      simp only [Option.map_some, Option.some.injEq] at this
      exact this.symm
    have hcs := ints_of_struct (zs := [orbit[i].1, orbit[i].2]) (k := .u16) (p := b.2) Tryz.underlying156 (by
      intro i f hf
      match i, hf with
      | 0, hf => cases hf; exact ⟨Tryz.underlying152, rfl, cells71⟩
      | 1, hf => cases hf; exact ⟨Tryz.underlying152, rfl, cells71⟩
      | (i + 2), hf => simp at hf) cells76 (by rw [hte]; exact congrArg some (Prod.ext hb1 rfl))
    obtain ⟨_, _, hcc⟩ := World.cells?_some hce
    rw [hcc j hj, hcs]
    rfl
  obtain ⟨R, oR, sR⟩ := a'
  obtain rfl : sR = none := by
    have h00 := hrow 0 (by omega) 0 (by omega)
    have : (Addr.add (Addr.add ⟨R, oR, sR⟩ (0 * 2)) 0) = ⟨R, oR, sR⟩ := by simp [Addr.add]
    rw [this] at h00
    exact Go.Proofs.cell_spot h00
  refine ⟨R, oR, cap, ?_, fun i hi => ?_⟩
  · rw [World.var?_cell hg hvar 0, ← Array.getElem?_toList, hc0, hlen, hol]
    rfl
  · have k0 := hrow i hi 0 (by omega)
    have k1 := hrow i hi 1 (by omega)
    rw [Addr.add_lit, Addr.add_lit] at k0 k1
    exact ⟨by simpa using k0, by simpa using k1⟩
end BD
namespace CL
set_option maxHeartbeats 8000000
set_option maxRecDepth 100000
open Go.Lib Go.ChangeShapes Go.WideShapes Go.ChangeAt
/-! ### The row: what the listed variables hold; the witness -/
theorem own : ownKnob Tryz.prog.godebug = none := by kernel_rfl
theorem laidOut : laidOutB Tryz.prog = true := by kernel_rfl
noncomputable def laidWorld (os : Os) : World :=
  let w0 := World.doorLaid Tryz.prog 138 os
  let put (h : Array Obj) (g : Nat) (cs : Array Value) : Array Obj := h.modify g fun
    | .cells _ t frozen => .cells cs t frozen
    | o => o
  let h1 := w0.heap.push (.cells Lib.caseCells5 178)
  let h2 := put h1 3 #[.slice (some ⟨15, 0, none⟩) 336 336]
  { w0 with heap := put h2 5 (Lib.firstTab.map fun z => Value.int .u8 z).toArray }
theorem laid_a (os : Os) (args : Array Value) : LaidIn Tryz.prog ((laidWorld os).forCall (fun _ _ => 0) ⟨#[], args, []⟩).memory [("math/bits.deBruijn32tab", Rows.laid_math_bits_deBruijn32tab), ("math/bits.deBruijn64tab", Rows.laid_math_bits_deBruijn64tab), ("internal/strconv.uint64pow10", Rows.laid_internal_strconv_uint64pow10), ("unicode/utf8.acceptRanges", Rows.laid_unicode_utf8_acceptRanges), ("unicode.asciiFold", Rows.laid_unicode_asciiFold), ("unicode.caseOrbit", Rows.laid_unicode_caseOrbit)] [1, 2, 4, 6, 7, 8, 14] :=
  LaidIn.of_run _ 10 (by kernel_rfl) (by kernel_rfl) (by kernel_rfl) (by kernel_rfl)
theorem laid_c (os : Os) (args : Array Value) : LaidIn Tryz.prog ((laidWorld os).forCall (fun _ _ => 0) ⟨#[], args, []⟩).memory [("unicode/utf8.first", Rows.laid_unicode_utf8_first)] [5] :=
  LaidIn.of_run _ 10 (by kernel_rfl) (by kernel_rfl) (by kernel_rfl) (by kernel_rfl)
def renC : Go.Shelf.Ren := ⟨Tryz.lays274_ren.f, Tryz.lays274_ren.t, fun | 13 => 3 | n => n⟩
theorem laysC : Go.Proofs.Lays.n274 Tryz.prog renC := { Tryz.lays274 with }
theorem extraC : Go.Proofs.CaseExtra Tryz.prog renC := ⟨by kernel_rfl, by kernel_rfl, by kernel_rfl, by kernel_rfl, by kernel_rfl, by kernel_rfl⟩
theorem laid_b (os : Os) (args : Array Value) : LaidIn Tryz.prog ((laidWorld os).forCall (fun _ _ => 0) ⟨#[], args, []⟩).memory [("unicode.CaseRanges", Rows.laid_unicode_CaseRanges)] [3, 15] := by
  have hvar : ((laidWorld os).forCall (fun _ _ => 0) ⟨#[], args, []⟩).memory.heap[3]? = some (.cells #[.slice (some ⟨15, 0, none⟩) Lib.caseA.size Lib.caseA.size] 159 (0, 0)) := by kernel_rfl
  have hblk : ((laidWorld os).forCall (fun _ _ => 0) ⟨#[], args, []⟩).memory.heap[15]? = some (.cells Lib.caseCells5 178 (0, 0)) := by kernel_rfl
  have hgR : (3 : Nat) ≠ 15 := by decide
  generalize ((laidWorld os).forCall (fun _ _ => 0) ⟨#[], args, []⟩).memory = w at *
  generalize (15 : Nat) = R at *
  have hT := Go.Proofs.caseTab_of_block hblk
  have hread := Go.Proofs.case_slice_reads laysC Tryz.underlying176 extraC hT Go.Proofs.caseA_wf (by rw [Lib.caseA_size]; unfold maxLen; omega) 0
  rw [Go.Proofs.case_rows_data] at hread
  have hd : Rows.laid_unicode_CaseRanges = Lib.caseData := Pinned.caseRanges_eq
  rw [hd]
  refine LaidIn.one (g := 3) (t := 159) (cs := #[.slice (some ⟨R, 0, none⟩) Lib.caseA.size Lib.caseA.size]) _ (by kernel_rfl) (by kernel_rfl) (by simp [World.var?, show Tryz.prog.globalNamed "unicode.CaseRanges" = some 3 by kernel_rfl, hvar]) hread ?_ ?_ ?_
  · refine List.nodup_append.2 ⟨rowP_nodup _ _, rowP_nodup _ _, ?_⟩
    intro a ha b hb e
    obtain ⟨i, _, rfl⟩ := MemPlace.mem_row.1 ha
    obtain ⟨j, _, rfl⟩ := MemPlace.mem_row.1 hb
    simp at e
    exact hgR e.1
  · intro b off hp
    rcases List.mem_append.1 hp with hp | hp
    · obtain ⟨i, hi, e⟩ := MemPlace.mem_row.1 hp
      cases e
      refine ⟨⟨_, _, hvar⟩, fun u v hc => ?_⟩
      obtain rfl : i = 0 := by simp at hi; omega
      rw [Lib.cell_of_heap hvar] at hc
      simp at hc
    · obtain ⟨i, hi, e⟩ := MemPlace.mem_row.1 hp
      cases e
      refine ⟨⟨_, _, hblk⟩, fun u v hc => ?_⟩
      obtain ⟨c0, c1, c2, c3, c4⟩ := hT (i / 5) (by omega)
      have hi5 : 0 + i = 0 + i / 5 * 5 + i % 5 := by omega
      simp only at hc
      rw [hi5] at hc
      have hm : i % 5 < 5 := Nat.mod_lt _ (by omega)
      match hk : i % 5, hm with
      | 0, _ => rw [hk, Nat.add_zero, c0] at hc; cases hc
      | 1, _ => rw [hk, c1] at hc; cases hc
      | 2, _ => rw [hk, c2] at hc; cases hc
      | 3, _ => rw [hk, c3] at hc; cases hc
      | 4, _ => rw [hk, c4] at hc; cases hc
  · intro x hx
    rcases List.mem_append.1 hx with hx | hx
    · obtain ⟨i, _, rfl⟩ := MemPlace.mem_row.1 hx; exact .head _
    · obtain ⟨i, _, rfl⟩ := MemPlace.mem_row.1 hx; exact .tail _ (.head _)
theorem laid_met (os : Os) (args : Array Value) : laidMet Tryz.prog Rows.clientTriesRow.laid ((laidWorld os).forCall (fun _ _ => 0) ⟨#[], args, []⟩).memory :=
  (LaidIn.append (LaidIn.append (laid_a os args) (laid_b os args) (by kernel_rfl)) (laid_c os args) (by kernel_rfl)).met
theorem max_len (w : World) (h : w.ShapedOpen Tryz.prog) : ∃ m, w.cell? ⟨0, 0, none⟩ = some (.int .i64 m) :=
  Go.Proofs.cell_of_shapedOpen_int (zero := #[.int .i64 0]) (t := 3) h (of_decide_eq_true (by kernel_rfl)) (by kernel_rfl) rfl (by kernel_rfl) (by kernel_rfl) Tryz.underlying3
theorem tabs_of_laid {W : World} (h : laidMetH Tryz.prog Rows.clientTriesRow.laid W) (hs : W.ShapedOpen Tryz.prog) : CT W := by
  rw [MakeChecks.laidMetH_plain _ _ _ (by kernel_rfl)] at h
  have h3 := h.tail.tail
  refine ⟨⟨BD.fold_of_reads (laidMet.reads h (.tail _ (.tail _ (.tail _ (.tail _ (.head _)))))), BD.orbit_of_reads (laidMet.reads h (.tail _ (.tail _ (.tail _ (.tail _ (.tail _ (.head _)))))))⟩, ?_, max_len W hs⟩
  exact tabIs_of_head (g := 4) (k := .u64) (zs := Lib.pow10Tab) (t := 165) (by kernel_rfl) (by kernel_rfl) Tryz.underlying165 Tryz.underlying143 (by kernel_rfl) (by kernel_rfl) h3
theorem S_of (s : ByteArray) : S s.data.toList = .string s := by show Value.string ⟨s.data.toList.toArray⟩ = _; rw [Lib.mk_data s]
/-! ### Structs by value and slices of structs, whatever the number of one-cell fields -/
section
open Go.ChangeShapes Go.WideShapes Go.Deep Go.Joins
variable {H : Type} {enc : TypeId × Value → H} {P : Program} {w : World} {base : Nat} {spare : Nat → Bool} {held : Bool}
theorem open_agg_any {r : Reach} {b0 : Nat} {t : TypeId} {fs : Array Field} {v : Value} {d : DataW H} {p : List MemPlace} (hs : P.underlying t = some (.struct fs)) (hone : oneCellFields P fs = true) (hC : P.cellsOf t = fs.size)
    (hv : Value.okWide P w r b0 t v) (h : DataW.Trod enc P w base spare held t v d p) :
    ∃ (cs : Array Value) (ys : List (DataW H × List MemPlace)) (n : Nat), v = .agg cs ∧ cs.size = fs.size ∧ d = .agg (ys.map (·.1)) ∧ ys.length = fs.size ∧
      ∀ (j : Nat) (f : Field), fs[j]? = some f → ∃ u y, cs[j]? = some u ∧ ys[j]? = some y ∧ DataW.trod enc P w base spare held n f.type [u] = some y := by
  obtain ⟨cs, rfl, hsz⟩ := okWide_struct hs hv
  obtain ⟨fuel, hf⟩ := h
  obtain ⟨xs, n, _, hx, _, hlen, hg⟩ := DataW.trod_struct hs hf
  simp only [Prod.mk.injEq] at hx
  refine ⟨cs, xs, n, rfl, hsz.trans hC, hx.1, hlen, fun j f hj => ?_⟩
  obtain ⟨ho, hk⟩ := hone_of hone j f hj
  have hjl : j < fs.size := (Array.getElem?_eq_some_iff.1 hj).1
  have hsz' : cs.size = fs.size := hsz.trans hC
  have h1 := hg j f hj
  rw [ho, hk] at h1
  have hl : (Value.agg cs).cells = cs := by simp [Value.cells]
  rw [hl] at h1
  have hone' : (cs.toList.drop j).take 1 = [cs[j]'(by omega)] := by
    rw [List.drop_eq_getElem_cons (by simpa using (by omega : j < cs.size))]
    simp
  rw [hone'] at h1
  have hys : xs[j]? = some (xs[j]'(by omega)) := List.getElem?_eq_getElem (by omega)
  exact ⟨_, _, Array.getElem?_eq_getElem (by omega), hys, h1.trans hys⟩
theorem open_slice_fields {t e : TypeId} {fs : Array Field} {fuel : Nat} {cs : List Value} {x : DataW H × List MemPlace} (ht : P.underlying t = some (.slice e)) (he : P.underlying e = some (.struct fs))
    (hone : oneCellFields P fs = true) (hC : P.cellsOf e = fs.size) (h : DataW.trod enc P w base spare held fuel t cs = some x) :
    (cs = [.slice none 0 0] ∧ x = (.nil, [])) ∨
    ∃ (a : Addr) (len cap m : Nat) (D : Nat → DataW H) (Pl : Nat → List MemPlace), cs = [.slice (some a) len cap] ∧ base ≤ a.block ∧ len ≤ cap ∧ cap ≤ maxLen ∧ m = (if spare a.block then cap else len) ∧
      x = (.slice ((List.range len).map D) ((List.range (m - len)).map fun j => D (len + j)), MemPlace.row a (m * fs.size) ++ (List.range m).flatMap Pl) ∧
      ∀ i, i < m → ∃ (ys : List (DataW H × List MemPlace)) (n : Nat), D i = .agg (ys.map (·.1)) ∧ Pl i = ys.flatMap (·.2) ∧ ys.length = fs.size ∧
        ∀ (j : Nat) (f : Field), fs[j]? = some f → ∃ (v : Value) (y : DataW H × List MemPlace), w.cell? (a.add (i * fs.size + j)) = some v ∧ ys[j]? = some y ∧ DataW.trod enc P w base spare held n f.type [v] = some y := by
  rcases open_slice ht h with h0 | ⟨a, len, cap, m, n, D, Pl, hcs, hb, hl, hm, hmm, hx, hi⟩
  · exact .inl h0
  · refine .inr ⟨a, len, cap, m, D, Pl, hcs, hb, hl, hm, hmm, by rw [hC] at hx; exact hx, fun i him => ?_⟩
    obtain ⟨cs', hc, ht'⟩ := hi i him
    rw [hC] at hc
    obtain ⟨ys, n', hn', hy, hlen, hyl, hf⟩ := DataW.trod_struct he ht'
    obtain ⟨_, hcl, hat⟩ := World.cells?_some hc
    simp only [Prod.mk.injEq] at hy
    refine ⟨ys, n', hy.1, hy.2, hyl, fun j f hj => ?_⟩
    obtain ⟨ho, hk⟩ := hone_of hone j f hj
    have hjl : j < fs.size := (Array.getElem?_eq_some_iff.1 hj).1
    have hcell := hat j hjl
    have hv : cs'[j]? = some (cs'[j]'(by omega)) := List.getElem?_eq_getElem (by omega)
    have h1 := hf j f hj
    rw [ho, hk] at h1
    have hone' : (cs'.drop j).take 1 = [cs'[j]'(by omega)] := by
      rw [List.drop_eq_getElem_cons (by omega)]
      rfl
    rw [hone'] at h1
    have hys : ys[j]? = some (ys[j]'(by omega)) := List.getElem?_eq_getElem (by omega)
    refine ⟨_, _, ?_, hys, h1.trans hys⟩
    rw [← Go.Deep.add_add, hcell, hv]
end
/-! ### The bulk of what is read -/
theorem bulk_part {H : Type} {d : DataW H} {l : List (DataW H)} (h : d ∈ l) : Rows.uptoBulk d ≤ Rows.uptoBulkAll l := by
  induction l with
  | nil => cases h
  | cons x r ih =>
    simp only [Rows.uptoBulkAll]
    cases List.mem_cons.1 h with
    | inl e => subst e; omega
    | inr e => have := ih e; omega
theorem bulk_one {H : Type} (d : DataW H) : 1 ≤ Rows.uptoBulk d := by
  cases d with
  | lit l => cases l <;> simp [Rows.uptoBulk]
  | nil => simp [Rows.uptoBulk]
  | ptr d => simp [Rows.uptoBulk]
  | slice elems spare => simp [Rows.uptoBulk]
  | agg parts => simp [Rows.uptoBulk]
  | iface t d => simp [Rows.uptoBulk]
  | map entries => simp [Rows.uptoBulk]
  | held x => simp [Rows.uptoBulk]
theorem bulk_len {H : Type} (l : List (DataW H)) : l.length ≤ Rows.uptoBulkAll l := by
  induction l with
  | nil => simp [Rows.uptoBulkAll]
  | cons x r ih => have := bulk_one x; simp only [Rows.uptoBulkAll, List.length_cons]; omega
theorem bulk_str {H : Type} (bytes : List UInt8) : Rows.uptoBulk (DataW.lit (H := H) (.string bytes)) = bytes.length + 1 := by simp [Rows.uptoBulk]
theorem bulk_bound {H : Type} {l : List (DataW H)} (hk : Rows.uptoSmall H l = true) : Rows.uptoBulkAll l ≤ 1048576 := of_decide_eq_true hk
theorem bulk_slice {H : Type} (a b : List (DataW H)) : Rows.uptoBulk (.slice a b) = Rows.uptoBulkAll a + Rows.uptoBulkAll b + 1 := by simp [Rows.uptoBulk]
end CL
end
section
namespace CL
set_option maxHeartbeats 8000000
set_option maxRecDepth 100000
/-! ### Fetches, scripts and services out of the arguments -/
section
open Go.ChangeShapes Go.WideShapes Go.Deep Go.Joins
variable {H : Type} {enc : TypeId × Value → H} {w : World} {base : Nat} {spare : Nat → Bool} {held : Bool}
theorem seven {cs : Array Value} (h : cs.size = 7) : ∃ c0 c1 c2 c3 c4 c5 c6, cs = #[c0, c1, c2, c3, c4, c5, c6] := by
  obtain ⟨l⟩ := cs
  match l, h with
  | [c0, c1, c2, c3, c4, c5, c6], _ => exact ⟨c0, c1, c2, c3, c4, c5, c6, rfl⟩
theorem open_int1 {fuel : Nat} {u : Value} {x : DataW H × List MemPlace} (h : DataW.trod enc Tryz.prog w base spare held fuel 3 [u] = some x) : ∃ n, u = I n ∧ -9223372036854775808 ≤ n ∧ n ≤ 9223372036854775807 := by
  obtain ⟨n, e, _, hw⟩ := DataW.trod_int Tryz.underlying3 h
  have hw' : (Lit.int .i64 n).wf = true := by first | exact hw.1 | exact hw | simpa using hw
  have h1 : IntKind.i64.min = -9223372036854775808 := rfl
  have h2 : IntKind.i64.max = 9223372036854775807 := rfl
  simp [Lit.wf] at hw'
  exact ⟨n, by simpa using e, by omega, by omega⟩
theorem open_str1 {fuel : Nat} {u : Value} {x : DataW H × List MemPlace} (h : DataW.trod enc Tryz.prog w base spare held fuel 9 [u] = some x) : ∃ l, u = S l ∧ x.1 = .lit (.string l) ∧ l.length ≤ 9223372036854775807 := by
  obtain ⟨s, e, hx, hs⟩ := DataW.trod_string Tryz.underlying9 h
  refine ⟨s.data.toList, ?_, by rw [hx], ?_⟩
  · rw [S_of]; simpa using e
  · unfold maxLen at hs
    rw [Lib.size_eq] at hs
    omega
set_option maxRecDepth 100000 in
theorem open_fetch {r : Reach} {b0 : Nat} {v : Value} {d : DataW H} {p : List MemPlace} (hv : Value.okWide Tryz.prog w r b0 23 v) (h : DataW.Trod enc Tryz.prog w base spare held 23 v d p) :
    ∃ (ho ta : List UInt8) (fr li tm tr wt : Int), v = .agg (FeV ho ta fr li tm tr wt) ∧ ho.length ≤ 9223372036854775807 ∧ ta.length ≤ 9223372036854775807 ∧ -9223372036854775808 ≤ fr ∧ fr ≤ 9223372036854775807 := by
  obtain ⟨cs, ys, n, rfl, hsz, -, -, hf⟩ := open_agg_any Tryz.underlying23 (by kernel_rfl) (by kernel_rfl) hv h
  obtain ⟨c0, c1, c2, c3, c4, c5, c6, rfl⟩ := seven hsz
  obtain ⟨u0, y0, e0, -, t0⟩ := hf 0 _ rfl
  obtain ⟨u1, y1, e1, -, t1⟩ := hf 1 _ rfl
  obtain ⟨u2, y2, e2, -, t2⟩ := hf 2 _ rfl
  obtain ⟨u3, y3, e3, -, t3⟩ := hf 3 _ rfl
  obtain ⟨u4, y4, e4, -, t4⟩ := hf 4 _ rfl
  obtain ⟨u5, y5, e5, -, t5⟩ := hf 5 _ rfl
  obtain ⟨u6, y6, e6, -, t6⟩ := hf 6 _ rfl
  simp at e0 e1 e2 e3 e4 e5 e6
  subst e0 e1 e2 e3 e4 e5 e6
  obtain ⟨ho, rfl, _, hh⟩ := open_str1 t0
  obtain ⟨ta, rfl, _, ht⟩ := open_str1 t1
  obtain ⟨n2, rfl, l2, u2⟩ := open_int1 t2
  obtain ⟨n3, rfl, _⟩ := open_int1 t3
  obtain ⟨n4, rfl, _⟩ := open_int1 t4
  obtain ⟨n5, rfl, _⟩ := open_int1 t5
  obtain ⟨n6, rfl, _⟩ := open_int1 t6
  exact ⟨ho, ta, n2, n3, n4, n5, n6, rfl, hh, ht, l2, u2⟩
theorem bulk_elem {D : Nat → DataW H} {len m i : Nat} (h : i < len) : Rows.uptoBulk (D i) ≤ Rows.uptoBulk (.slice ((List.range len).map D) ((List.range (m - len)).map fun j => D (len + j))) := by
  rw [bulk_slice]
  have := bulk_part (d := D i) (l := (List.range len).map D) (List.mem_map.2 ⟨i, List.mem_range.2 h, rfl⟩)
  omega
set_option maxRecDepth 100000 in
theorem open_ops {fuel : Nat} {v : Value} {x : DataW H × List MemPlace} (h : DataW.trod enc Tryz.prog w base spare held fuel 40 [v] = some x) :
    ∃ os, OpsAt w v os ∧ ∀ o ∈ os, o.s.length ≤ Rows.uptoBulk x.1 ∧ -9223372036854775808 ≤ o.n ∧ o.n ≤ 9223372036854775807 := by
  rcases open_slice_fields Tryz.underlying40 Tryz.underlying42 (by kernel_rfl) (by kernel_rfl) h with ⟨hcs, -⟩ | ⟨a, len, cap, m, D, Pl, hcs, hb, hl, hm, hmm, hx, hi⟩
  · simp at hcs; subst hcs
    exact ⟨[], ⟨none, 0, rfl, Nat.le_refl _, Nat.zero_le _, fun h => absurd rfl h⟩, fun o ho => by cases ho⟩
  · simp at hcs; subst hcs
    have hlm : len ≤ m := by rw [hmm]; split <;> omega
    have key : ∀ i, i < len → ∃ e : Op1, w.cell? (a.add (i * 3)) = some (I e.ki) ∧ w.cell? (a.add (i * 3 + 1)) = some (I e.n) ∧ w.cell? (a.add (i * 3 + 2)) = some (S e.s) ∧ e.s.length ≤ Rows.uptoBulk x.1 ∧ -9223372036854775808 ≤ e.n ∧ e.n ≤ 9223372036854775807 := by
      intro i hil
      obtain ⟨ys, n, hD, -, hyl, hf⟩ := hi i (by omega)
      obtain ⟨u0, y0, e0, f0, t0⟩ := hf 0 _ rfl
      obtain ⟨u1, y1, e1, f1, t1⟩ := hf 1 _ rfl
      obtain ⟨u2, y2, e2, f2, t2⟩ := hf 2 _ rfl
      obtain ⟨n0, rfl, _⟩ := open_int1 t0
      obtain ⟨n1, rfl, l1, h1⟩ := open_int1 t1
      obtain ⟨s2, rfl, hy2, _⟩ := open_str1 t2
      refine ⟨⟨n0, n1, s2⟩, e0, e1, e2, ?_, l1, h1⟩
      have hmem : (.lit (.string s2) : DataW H) ∈ ys.map (·.1) := by
        rw [← hy2]
        exact List.mem_map.2 ⟨y2, List.mem_of_getElem? f2, rfl⟩
      have b1 := bulk_part hmem
      rw [bulk_str] at b1
      have b2 := bulk_elem (D := D) (m := m) hil
      rw [hD] at b2
      rw [hx]
      simp only [Rows.uptoBulk] at b1 b2 ⊢
      omega
    haveI : Inhabited Op1 := ⟨⟨0, 0, []⟩⟩
    obtain ⟨f, hf⟩ := choose_lt key
    refine ⟨(List.range len).map f, ⟨some a, cap, by simp, by simp; exact hl, hm, fun hne => ?_⟩, fun o ho => ?_⟩
    · have hpos : 0 < len := by
        rcases Nat.eq_zero_or_pos len with h0 | h0
        · subst h0; simp at hne
        · exact h0
      obtain ⟨b, off, spot⟩ := a
      have hspot : spot = none := by simpa [Addr.add] using World.cell?_spot (hf 0 hpos).1
      subst hspot
      refine ⟨b, off, rfl, fun i hi => ?_⟩
      have hil : i < len := by simpa using hi
      obtain ⟨g0, g1, g2, _⟩ := hf i hil
      simp only [List.getElem_map, List.getElem_range]
      rw [Addr.add_lit] at g0 g1 g2
      exact ⟨g0, g1, g2⟩
    · obtain ⟨i, hi, rfl⟩ := List.mem_map.1 ho
      obtain ⟨_, _, _, g3, g4, g5⟩ := hf i (List.mem_range.1 hi)
      exact ⟨g3, g4, g5⟩
end
end CL
end
end Go.Proofs.YtgdncdhalnijcaaGreatDoor
