/- Walks and lemmas on the program of this seat, used by its statements; each theorem bears its own conditions. -/
import Derived.Test.YtlchdokpkaikhaaDoorUK
import Derived.Test.YtlchdokpkaikhaaDoorCards
import Derived.Test.YtlchdokpkaikhaaDoorTie
import Derived.Lib.LaidIn
import Derived.PinnedBridge
import Derived.ProofKit
import Derived.OpenShut
import Derived.Deep.DeepHandedRow
import Derived.Deep.DeepWitnessRowRef
import Derived.SliceStrings
import Derived.Lib.SmallJoins
import Derived.Lib.LaidU8T
import Derived.LaidMore
import Derived.Deep.DeepLaidRun
import Derived.Stop.LaidErr
import Derived.Lib.LaidTab
import Derived.Deep.Slices
import Derived.Deep.Fields
import Derived.ChangeSame
namespace Go.Proofs.YtlchdokpkaikhaaDoor
open Go.RowKit
set_option linter.unusedVariables false
set_option linter.unusedSimpArgs false
/-! ### Structs by value and slices of structs, whatever the number of one-cell fields -/
section
open Go.ChangeShapes Go.WideShapes Go.Deep Go.Joins
variable {H : Type} {enc : TypeId × Value → H} {P : Program} {w : World} {base : Nat} {spare : Nat → Bool} {held : Bool}
theorem open_agg_any {r : Reach} {b0 : Nat} {t : TypeId} {fs : Array Field} {v : Value} {d : DataW H} {p : List MemPlace} (hs : P.underlying t = some (.struct fs)) (hone : oneCellFields P fs = true) (hC : P.cellsOf t = fs.size)
    (hv : Value.okWide P w r b0 t v) (h : DataW.Trod enc P w base spare held t v d p) :
    ∃ (cs : Array Value) (ys : List (DataW H × List MemPlace)) (n : Nat), v = .agg cs ∧ cs.size = fs.size ∧ d = .agg (ys.map (·.1)) ∧ ys.length = fs.size ∧
      ∀ (j : Nat) (f : Field), fs[j]? = some f → ∃ u y, cs[j]? = some u ∧ ys[j]? = some y ∧ DataW.trod enc P w base spare held n f.type [u] = some y := by
  obtain ⟨cs, rfl, hsz⟩ := okWide_struct hs hv
  obtain ⟨fuel, hf⟩ := h
  obtain ⟨xs, n, _, hx, _, hlen, hg⟩ := DataW.trod_struct hs hf
  simp only [Prod.mk.injEq] at hx
  refine ⟨cs, xs, n, rfl, hsz.trans hC, hx.1, hlen, fun j f hj => ?_⟩
  obtain ⟨ho, hk⟩ := hone_of hone j f hj
  have hjl : j < fs.size := (Array.getElem?_eq_some_iff.1 hj).1
  have hsz' : cs.size = fs.size := hsz.trans hC
  have h1 := hg j f hj
  rw [ho, hk] at h1
  have hl : (Value.agg cs).cells = cs := by simp [Value.cells]
  rw [hl] at h1
  have hone' : (cs.toList.drop j).take 1 = [cs[j]'(by omega)] := by
    rw [List.drop_eq_getElem_cons (by simpa using (by omega : j < cs.size))]
    simp
  rw [hone'] at h1
  have hys : xs[j]? = some (xs[j]'(by omega)) := List.getElem?_eq_getElem (by omega)
  exact ⟨_, _, Array.getElem?_eq_getElem (by omega), hys, h1.trans hys⟩
theorem open_slice_fields {t e : TypeId} {fs : Array Field} {fuel : Nat} {cs : List Value} {x : DataW H × List MemPlace} (ht : P.underlying t = some (.slice e)) (he : P.underlying e = some (.struct fs))
    (hone : oneCellFields P fs = true) (hC : P.cellsOf e = fs.size) (h : DataW.trod enc P w base spare held fuel t cs = some x) :
    (cs = [.slice none 0 0] ∧ x = (.nil, [])) ∨
    ∃ (a : Addr) (len cap m : Nat) (D : Nat → DataW H) (Pl : Nat → List MemPlace), cs = [.slice (some a) len cap] ∧ base ≤ a.block ∧ len ≤ cap ∧ cap ≤ maxLen ∧ m = (if spare a.block then cap else len) ∧
      x = (.slice ((List.range len).map D) ((List.range (m - len)).map fun j => D (len + j)), MemPlace.row a (m * fs.size) ++ (List.range m).flatMap Pl) ∧
      ∀ i, i < m → ∃ (ys : List (DataW H × List MemPlace)) (n : Nat), D i = .agg (ys.map (·.1)) ∧ Pl i = ys.flatMap (·.2) ∧ ys.length = fs.size ∧
        ∀ (j : Nat) (f : Field), fs[j]? = some f → ∃ (v : Value) (y : DataW H × List MemPlace), w.cell? (a.add (i * fs.size + j)) = some v ∧ ys[j]? = some y ∧ DataW.trod enc P w base spare held n f.type [v] = some y := by
  rcases open_slice ht h with h0 | ⟨a, len, cap, m, n, D, Pl, hcs, hb, hl, hm, hmm, hx, hi⟩
  · exact .inl h0
  · refine .inr ⟨a, len, cap, m, D, Pl, hcs, hb, hl, hm, hmm, by rw [hC] at hx; exact hx, fun i him => ?_⟩
    obtain ⟨cs', hc, ht'⟩ := hi i him
    rw [hC] at hc
    obtain ⟨ys, n', hn', hy, hlen, hyl, hf⟩ := DataW.trod_struct he ht'
    obtain ⟨_, hcl, hat⟩ := World.cells?_some hc
    simp only [Prod.mk.injEq] at hy
    refine ⟨ys, n', hy.1, hy.2, hyl, fun j f hj => ?_⟩
    obtain ⟨ho, hk⟩ := hone_of hone j f hj
    have hjl : j < fs.size := (Array.getElem?_eq_some_iff.1 hj).1
    have hcell := hat j hjl
    have hv : cs'[j]? = some (cs'[j]'(by omega)) := List.getElem?_eq_getElem (by omega)
    have h1 := hf j f hj
    rw [ho, hk] at h1
    have hone' : (cs'.drop j).take 1 = [cs'[j]'(by omega)] := by
      rw [List.drop_eq_getElem_cons (by omega)]
      rfl
    rw [hone'] at h1
    have hys : ys[j]? = some (ys[j]'(by omega)) := List.getElem?_eq_getElem (by omega)
    refine ⟨_, _, ?_, hys, h1.trans hys⟩
    rw [← Go.Deep.add_add, hcell, hv]
end
/-! ### States and events out of the arguments -/
section
open Go.ChangeShapes Go.WideShapes Go.Deep Go.Joins
variable {H : Type} {enc : TypeId × Value → H} {w : World} {base : Nat} {spare : Nat → Bool} {held : Bool}
theorem seven {cs : Array Value} (h : cs.size = 7) : ∃ c0 c1 c2 c3 c4 c5 c6, cs = #[c0, c1, c2, c3, c4, c5, c6] := by
  obtain ⟨l⟩ := cs
  match l, h with
  | [c0, c1, c2, c3, c4, c5, c6], _ => exact ⟨c0, c1, c2, c3, c4, c5, c6, rfl⟩
theorem open_int1 {fuel : Nat} {u : Value} {x : DataW H × List MemPlace} (h : DataW.trod enc Tryd.prog w base spare held fuel 3 [u] = some x) : ∃ n, u = I n := by
  obtain ⟨n, e, _, _⟩ := DataW.trod_int Tryd.underlying3 h
  exact ⟨n, by simpa using e⟩
theorem open_bool1 {fuel : Nat} {u : Value} {x : DataW H × List MemPlace} (h : DataW.trod enc Tryd.prog w base spare held fuel 4 [u] = some x) : ∃ b, u = .bool b := by
  obtain ⟨n, e, _⟩ := DataW.trod_bool Tryd.underlying4 h
  exact ⟨n, by simpa using e⟩
set_option maxRecDepth 100000 in
theorem open_state {r : Reach} {b0 : Nat} {v : Value} {d : DataW H} {p : List MemPlace} (hv : Value.okWide Tryd.prog w r b0 23 v) (h : DataW.Trod enc Tryd.prog w base spare held 23 v d p) : ∃ s : St, v = VS s := by
  obtain ⟨cs, ys, n, rfl, hsz, -, -, hf⟩ := open_agg_any Tryd.underlying23 (by kernel_rfl) (by kernel_rfl) hv h
  obtain ⟨c0, c1, c2, c3, c4, c5, c6, rfl⟩ := seven hsz
  obtain ⟨u0, y0, e0, -, t0⟩ := hf 0 _ rfl
  obtain ⟨u1, y1, e1, -, t1⟩ := hf 1 _ rfl
  obtain ⟨u2, y2, e2, -, t2⟩ := hf 2 _ rfl
  obtain ⟨u3, y3, e3, -, t3⟩ := hf 3 _ rfl
  obtain ⟨u4, y4, e4, -, t4⟩ := hf 4 _ rfl
  obtain ⟨u5, y5, e5, -, t5⟩ := hf 5 _ rfl
  obtain ⟨u6, y6, e6, -, t6⟩ := hf 6 _ rfl
  simp at e0 e1 e2 e3 e4 e5 e6
  subst e0 e1 e2 e3 e4 e5 e6
  obtain ⟨n0, rfl⟩ := open_int1 t0
  obtain ⟨n1, rfl⟩ := open_int1 t1
  obtain ⟨n2, rfl⟩ := open_int1 t2
  obtain ⟨n3, rfl⟩ := open_int1 t3
  obtain ⟨n4, rfl⟩ := open_int1 t4
  obtain ⟨b5, rfl⟩ := open_bool1 t5
  obtain ⟨n6, rfl⟩ := open_int1 t6
  exact ⟨⟨n0, n1, n2, n3, n4, b5, n6⟩, rfl⟩
set_option maxRecDepth 100000 in
theorem open_event {r : Reach} {b0 : Nat} {v : Value} {d : DataW H} {p : List MemPlace} (hv : Value.okWide Tryd.prog w r b0 25 v) (h : DataW.Trod enc Tryd.prog w base spare held 25 v d p) : ∃ s : Ev, v = VE s := by
  obtain ⟨cs, ys, n, rfl, hsz, -, -, hf⟩ := open_agg_any Tryd.underlying25 (by kernel_rfl) (by kernel_rfl) hv h
  obtain ⟨c0, c1, c2, c3, c4, c5, c6, rfl⟩ := seven hsz
  obtain ⟨u0, y0, e0, -, t0⟩ := hf 0 _ rfl
  obtain ⟨u1, y1, e1, -, t1⟩ := hf 1 _ rfl
  obtain ⟨u2, y2, e2, -, t2⟩ := hf 2 _ rfl
  obtain ⟨u3, y3, e3, -, t3⟩ := hf 3 _ rfl
  obtain ⟨u4, y4, e4, -, t4⟩ := hf 4 _ rfl
  obtain ⟨u5, y5, e5, -, t5⟩ := hf 5 _ rfl
  obtain ⟨u6, y6, e6, -, t6⟩ := hf 6 _ rfl
  simp at e0 e1 e2 e3 e4 e5 e6
  subst e0 e1 e2 e3 e4 e5 e6
  obtain ⟨n0, rfl⟩ := open_int1 t0
  obtain ⟨n1, rfl⟩ := open_int1 t1
  obtain ⟨n2, rfl⟩ := open_int1 t2
  obtain ⟨n3, rfl⟩ := open_int1 t3
  obtain ⟨n4, rfl⟩ := open_int1 t4
  obtain ⟨b5, rfl⟩ := open_bool1 t5
  obtain ⟨b6, rfl⟩ := open_bool1 t6
  exact ⟨⟨n0, n1, n2, n3, n4, b5, b6⟩, rfl⟩
/-- A slice of events, cell by cell. -/
def EvsAt (w : World) (v : Value) (es : List Ev) : Prop :=
  ∃ (p : Option Addr) (cap : Nat), v = .slice p es.length cap ∧ es.length ≤ cap ∧ cap ≤ maxLen ∧ (es ≠ [] → ∃ b off, p = some ⟨b, off, none⟩ ∧ ∀ (i : Nat) (h : i < es.length),
    w.cell? ⟨b, off + i * 7, none⟩ = some (I es[i].ki) ∧ w.cell? ⟨b, off + i * 7 + 1, none⟩ = some (I es[i].id) ∧ w.cell? ⟨b, off + i * 7 + 2, none⟩ = some (I es[i].sl) ∧ w.cell? ⟨b, off + i * 7 + 3, none⟩ = some (I es[i].sz) ∧
    w.cell? ⟨b, off + i * 7 + 4, none⟩ = some (I es[i].sq) ∧ w.cell? ⟨b, off + i * 7 + 5, none⟩ = some (.bool es[i].up) ∧ w.cell? ⟨b, off + i * 7 + 6, none⟩ = some (.bool es[i].ok))
set_option maxRecDepth 100000 in
theorem open_events {fuel : Nat} {v : Value} {x : DataW H × List MemPlace} (h : DataW.trod enc Tryd.prog w base spare held fuel 37 [v] = some x) : ∃ es, EvsAt w v es := by
  rcases open_slice_fields Tryd.underlying37 Tryd.underlying25 (by kernel_rfl) (by kernel_rfl) h with ⟨hcs, -⟩ | ⟨a, len, cap, m, D, Pl, hcs, hb, hl, hm, hmm, hx, hi⟩
  · simp at hcs; subst hcs
    exact ⟨[], none, 0, rfl, Nat.le_refl _, Nat.zero_le _, fun h => absurd rfl h⟩
  · simp at hcs; subst hcs
    have hlm : len ≤ m := by rw [hmm]; split <;> omega
    have key : ∀ i, i < len → ∃ e : Ev, w.cell? (a.add (i * 7)) = some (I e.ki) ∧ w.cell? (a.add (i * 7 + 1)) = some (I e.id) ∧ w.cell? (a.add (i * 7 + 2)) = some (I e.sl) ∧ w.cell? (a.add (i * 7 + 3)) = some (I e.sz) ∧
        w.cell? (a.add (i * 7 + 4)) = some (I e.sq) ∧ w.cell? (a.add (i * 7 + 5)) = some (.bool e.up) ∧ w.cell? (a.add (i * 7 + 6)) = some (.bool e.ok) := by
      intro i hil
      obtain ⟨ys, n, -, -, -, hf⟩ := hi i (by omega)
      obtain ⟨u0, y0, e0, -, t0⟩ := hf 0 _ rfl
      obtain ⟨u1, y1, e1, -, t1⟩ := hf 1 _ rfl
      obtain ⟨u2, y2, e2, -, t2⟩ := hf 2 _ rfl
      obtain ⟨u3, y3, e3, -, t3⟩ := hf 3 _ rfl
      obtain ⟨u4, y4, e4, -, t4⟩ := hf 4 _ rfl
      obtain ⟨u5, y5, e5, -, t5⟩ := hf 5 _ rfl
      obtain ⟨u6, y6, e6, -, t6⟩ := hf 6 _ rfl
      obtain ⟨n0, rfl⟩ := open_int1 t0
      obtain ⟨n1, rfl⟩ := open_int1 t1
      obtain ⟨n2, rfl⟩ := open_int1 t2
      obtain ⟨n3, rfl⟩ := open_int1 t3
      obtain ⟨n4, rfl⟩ := open_int1 t4
      obtain ⟨b5, rfl⟩ := open_bool1 t5
      obtain ⟨b6, rfl⟩ := open_bool1 t6
      exact ⟨⟨n0, n1, n2, n3, n4, b5, b6⟩, e0, e1, e2, e3, e4, e5, e6⟩
    haveI : Inhabited Ev := ⟨⟨0, 0, 0, 0, 0, false, false⟩⟩
    obtain ⟨f, hf⟩ := choose_lt key
    refine ⟨(List.range len).map f, some a, cap, by simp, by simp; exact hl, hm, fun hne => ?_⟩
    have hpos : 0 < len := by
      rcases Nat.eq_zero_or_pos len with h0 | h0
      · subst h0; simp at hne
      · exact h0
    obtain ⟨b, off, spot⟩ := a
    have hspot : spot = none := by simpa [Addr.add] using World.cell?_spot (hf 0 hpos).1
    subst hspot
    refine ⟨b, off, rfl, fun i hi => ?_⟩
    have hil : i < len := by simpa using hi
    obtain ⟨g0, g1, g2, g3, g4, g5, g6⟩ := hf i hil
    simp only [List.getElem_map, List.getElem_range]
    rw [Addr.add_lit] at g0 g1 g2 g3 g4 g5 g6
    exact ⟨g0, g1, g2, g3, g4, g5, g6⟩
end
open Go.Lib Go.ChangeShapes Go.WideShapes Go.ChangeAt
/-! ### The row: what the listed variables hold; the witness -/
theorem own : ownKnob Tryd.prog.godebug = none := by kernel_rfl
theorem laidOut : laidOutB Tryd.prog = true := by kernel_rfl
noncomputable def laidWorld (os : Os) : World :=
  let w0 := World.doorLaid Tryd.prog 72 os
  { w0 with heap := w0.heap.modify 4 fun
    | .cells _ t frozen => .cells (Lib.firstTab.map fun z => Value.int .u8 z).toArray t frozen
    | o => o }
theorem laid_met (os : Os) (args : Array Value) : laidMet Tryd.prog Rows.updaterStepsRow.laid ((laidWorld os).forCall (fun _ _ => 0) ⟨#[], args, []⟩).memory :=
  laidMet_of_run3 10 (by kernel_rfl) (by kernel_rfl) (by kernel_rfl)
theorem err_row (u : TypeId) (h : Tryd.prog.typeName? 3 u = some "*errors.errorString") : u = 112 :=
  typeName_ptr_named (P := Tryd.prog) (nm := "errors.errorString") (by kernel_rfl) (by kernel_rfl) (by decide) u h
theorem cells_str : Tryd.prog.cellsOf 9 = 1 := by kernel_rfl
theorem max_len (w : World) (h : w.ShapedOpen Tryd.prog) : ∃ m, w.cell? ⟨3, 0, none⟩ = some (.int .i64 m) :=
  Go.Proofs.cell_of_shapedOpen_int (zero := #[.int .i64 0]) (t := 3) h (of_decide_eq_true (by kernel_rfl)) (by kernel_rfl) rfl (by kernel_rfl) (by kernel_rfl) Tryd.underlying3
theorem tabs_of_laid {W : World} (h : laidMetH Tryd.prog Rows.updaterStepsRow.laid W) (hs : W.ShapedOpen Tryd.prog) : Tabs W := by
  rw [MakeChecks.laidMetH_plain _ _ _ (by kernel_rfl)] at h
  have h3 := h.tail.tail
  have h5 := h3.tail.tail
  have h6 := h5.tail
  obtain ⟨m, hm⟩ := max_len W hs
  obtain ⟨a, _, ha, _⟩ := laid_sentinel (g := 1) h5 (by kernel_rfl) (by kernel_rfl) Tryd.underlying54 err_row Tryd.underlying112 Tryd.underlying114 rfl rfl Tryd.underlying9 (by kernel_rfl) cells_str
  obtain ⟨b, _, hb, _⟩ := laid_sentinel (g := 0) h6 (by kernel_rfl) (by kernel_rfl) Tryd.underlying54 err_row Tryd.underlying112 Tryd.underlying114 rfl rfl Tryd.underlying9 (by kernel_rfl) cells_str
  refine ⟨?_, ⟨_, _, hb⟩, ⟨_, _, ha⟩, ⟨m, hm⟩, World.block_lt_of_cell? W _ hm⟩
  exact tabIs_of_head (g := 2) (k := .u64) (zs := Lib.pow10Tab) (t := 106) (by kernel_rfl) (by kernel_rfl) Tryd.underlying106 Tryd.underlying76 (by kernel_rfl) (by kernel_rfl) h3
theorem S_of (s : ByteArray) : S s.data.toList = .string s := by show Value.string ⟨s.data.toList.toArray⟩ = _; rw [Lib.mk_data s]
end Go.Proofs.YtlchdokpkaikhaaDoor
