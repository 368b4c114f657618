/- Walks and lemmas on the program of this seat, used by its statements; each theorem bears its own conditions. -/
import Derived.Test.YtncdfaocemfgfaaGreatXPG
import Derived.Test.YtncdfaocemfgfaaGreatRows
import Derived.Lib.LaidIn
import Derived.PinnedBridge
import Derived.ProofKit
import Derived.OpenShut
import Derived.Deep.DeepHandedRow
import Derived.Deep.DeepWitnessRowRef
import Derived.SliceStrings
import Derived.Lib.SmallJoins
import Derived.LaidMore
import Derived.Deep.Slices
import Derived.Deep.Fields
import Derived.ChangeSame
namespace Go.Proofs.YtncdfaocemfgfaaGreat
open Go.RowKit
set_option linter.unusedVariables false
set_option linter.unusedSimpArgs false
/-! ### Structs by value and slices of structs, whatever the number of one-cell fields -/
section
open Go.ChangeShapes Go.WideShapes Go.Deep Go.Joins
variable {H : Type} {enc : TypeId × Value → H} {P : Program} {w : World} {base : Nat} {spare : Nat → Bool} {held : Bool}
theorem open_agg_any {r : Reach} {b0 : Nat} {t : TypeId} {fs : Array Field} {v : Value} {d : DataW H} {p : List MemPlace} (hs : P.underlying t = some (.struct fs)) (hone : oneCellFields P fs = true) (hC : P.cellsOf t = fs.size)
    (hv : Value.okWide P w r b0 t v) (h : DataW.Trod enc P w base spare held t v d p) :
    ∃ (cs : Array Value) (ys : List (DataW H × List MemPlace)) (n : Nat), v = .agg cs ∧ cs.size = fs.size ∧ d = .agg (ys.map (·.1)) ∧ ys.length = fs.size ∧
      ∀ (j : Nat) (f : Field), fs[j]? = some f → ∃ u y, cs[j]? = some u ∧ ys[j]? = some y ∧ DataW.trod enc P w base spare held n f.type [u] = some y := by
  obtain ⟨cs, rfl, hsz⟩ := okWide_struct hs hv
  obtain ⟨fuel, hf⟩ := h
  obtain ⟨xs, n, _, hx, _, hlen, hg⟩ := DataW.trod_struct hs hf
  simp only [Prod.mk.injEq] at hx
  refine ⟨cs, xs, n, rfl, hsz.trans hC, hx.1, hlen, fun j f hj => ?_⟩
  obtain ⟨ho, hk⟩ := hone_of hone j f hj
  have hjl : j < fs.size := (Array.getElem?_eq_some_iff.1 hj).1
  have hsz' : cs.size = fs.size := hsz.trans hC
  have h1 := hg j f hj
  rw [ho, hk] at h1
  have hl : (Value.agg cs).cells = cs := by simp [Value.cells]
  rw [hl] at h1
  have hone' : (cs.toList.drop j).take 1 = [cs[j]'(by omega)] := by
    rw [List.drop_eq_getElem_cons (by simpa using (by omega : j < cs.size))]
    simp
  rw [hone'] at h1
  have hys : xs[j]? = some (xs[j]'(by omega)) := List.getElem?_eq_getElem (by omega)
  exact ⟨_, _, Array.getElem?_eq_getElem (by omega), hys, h1.trans hys⟩
theorem open_slice_fields {t e : TypeId} {fs : Array Field} {fuel : Nat} {cs : List Value} {x : DataW H × List MemPlace} (ht : P.underlying t = some (.slice e)) (he : P.underlying e = some (.struct fs))
    (hone : oneCellFields P fs = true) (hC : P.cellsOf e = fs.size) (h : DataW.trod enc P w base spare held fuel t cs = some x) :
    (cs = [.slice none 0 0] ∧ x = (.nil, [])) ∨
    ∃ (a : Addr) (len cap m : Nat) (D : Nat → DataW H) (Pl : Nat → List MemPlace), cs = [.slice (some a) len cap] ∧ base ≤ a.block ∧ len ≤ cap ∧ cap ≤ maxLen ∧ m = (if spare a.block then cap else len) ∧
      x = (.slice ((List.range len).map D) ((List.range (m - len)).map fun j => D (len + j)), MemPlace.row a (m * fs.size) ++ (List.range m).flatMap Pl) ∧
      ∀ i, i < m → ∃ (ys : List (DataW H × List MemPlace)) (n : Nat), D i = .agg (ys.map (·.1)) ∧ Pl i = ys.flatMap (·.2) ∧ ys.length = fs.size ∧
        ∀ (j : Nat) (f : Field), fs[j]? = some f → ∃ (v : Value) (y : DataW H × List MemPlace), w.cell? (a.add (i * fs.size + j)) = some v ∧ ys[j]? = some y ∧ DataW.trod enc P w base spare held n f.type [v] = some y := by
  rcases open_slice ht h with h0 | ⟨a, len, cap, m, n, D, Pl, hcs, hb, hl, hm, hmm, hx, hi⟩
  · exact .inl h0
  · refine .inr ⟨a, len, cap, m, D, Pl, hcs, hb, hl, hm, hmm, by rw [hC] at hx; exact hx, fun i him => ?_⟩
    obtain ⟨cs', hc, ht'⟩ := hi i him
    rw [hC] at hc
    obtain ⟨ys, n', hn', hy, hlen, hyl, hf⟩ := DataW.trod_struct he ht'
    obtain ⟨_, hcl, hat⟩ := World.cells?_some hc
    simp only [Prod.mk.injEq] at hy
    refine ⟨ys, n', hy.1, hy.2, hyl, fun j f hj => ?_⟩
    obtain ⟨ho, hk⟩ := hone_of hone j f hj
    have hjl : j < fs.size := (Array.getElem?_eq_some_iff.1 hj).1
    have hcell := hat j hjl
    have hv : cs'[j]? = some (cs'[j]'(by omega)) := List.getElem?_eq_getElem (by omega)
    have h1 := hf j f hj
    rw [ho, hk] at h1
    have hone' : (cs'.drop j).take 1 = [cs'[j]'(by omega)] := by
      rw [List.drop_eq_getElem_cons (by omega)]
      rfl
    rw [hone'] at h1
    have hys : ys[j]? = some (ys[j]'(by omega)) := List.getElem?_eq_getElem (by omega)
    refine ⟨_, _, ?_, hys, h1.trans hys⟩
    rw [← Go.Deep.add_add, hcell, hv]
end
/-! ### The rows: the witness; worlds and scripts out of the arguments -/
theorem own : ownKnob Tryz.prog.godebug = none := by kernel_rfl
theorem laidOut : laidOutB Tryz.prog = true := by kernel_rfl
noncomputable def laidWorld (os : Os) : World := World.holding Tryz.prog os ⟨#[], #[], []⟩
theorem laid_met (os : Os) (args : Array Value) : laidMet Tryz.prog [] ((laidWorld os).forCall (fun _ _ => 0) ⟨#[], args, []⟩).memory := by
  exact laidMet_nil _ _
theorem S_of (s : ByteArray) : S s.data.toList = .string s := by show Value.string ⟨s.data.toList.toArray⟩ = _; rw [Lib.mk_data s]
section
open Go.ChangeShapes Go.WideShapes Go.Deep Go.Joins
variable {H : Type} {enc : TypeId × Value → H} {w : World} {base : Nat} {spare : Nat → Bool} {held : Bool}
theorem open_int1 {fuel : Nat} {u : Value} {x : DataW H × List MemPlace} (h : DataW.trod enc Tryz.prog w base spare held fuel 3 [u] = some x) : ∃ n, u = I n := by
  obtain ⟨n, e, _, hw⟩ := DataW.trod_int Tryz.underlying3 h
  exact ⟨n, by simpa using e⟩
theorem open_byte1 {fuel : Nat} {u : Value} {x : DataW H × List MemPlace} (h : DataW.trod enc Tryz.prog w base spare held fuel 5 [u] = some x) : ∃ c : UInt8, u = B c := by
  obtain ⟨n, e, _, hw⟩ := DataW.trod_int Tryz.underlying5 h
  have hw' : (Lit.int .u8 n).wf = true := by first | exact hw.1 | exact hw | simpa using hw
  have h1 : IntKind.u8.min = 0 := rfl
  have h2 : IntKind.u8.max = 255 := rfl
  simp [Lit.wf] at hw'
  refine ⟨UInt8.ofNat n.toNat, ?_⟩
  have e' : u = .int .u8 n := by simpa using e
  rw [e']
  show Value.int .u8 n = .int .u8 _
  congr 1
  rw [UInt8.toNat_ofNat']
  omega
theorem open_bool1 {fuel : Nat} {u : Value} {x : DataW H × List MemPlace} (h : DataW.trod enc Tryz.prog w base spare held fuel 4 [u] = some x) : ∃ b, u = .bool b := by
  obtain ⟨n, e, _⟩ := DataW.trod_bool Tryz.underlying4 h
  exact ⟨n, by simpa using e⟩
theorem open_str1 {fuel : Nat} {u : Value} {x : DataW H × List MemPlace} (h : DataW.trod enc Tryz.prog w base spare held fuel 9 [u] = some x) : ∃ l, u = S l := by
  obtain ⟨s, e, hx, hs⟩ := DataW.trod_string Tryz.underlying9 h
  refine ⟨s.data.toList, ?_⟩
  rw [S_of]; simpa using e
end
section
open Go.Lib Go.ChangeShapes Go.WideShapes Go.Deep Go.Joins Go.ChangeAt
variable {H : Type} {enc : TypeId × Value → H} {w : World} {base : Nat} {spare : Nat → Bool} {held : Bool}
theorem weightsAll_mem {P : Program} {e : TypeId} {d : DataW H} {n : Nat} (hn : n ∈ d.weights P e) : ∀ l : List (DataW H), d ∈ l → n ∈ DataW.weightsAll P e l
  | [], h => by cases h
  | x :: r, h => by
    simp only [DataW.weightsAll, List.mem_append]
    rcases List.mem_cons.1 h with rfl | h
    · exact .inl hn
    · exact .inr (weightsAll_mem hn r h)
abbrev Small (n : Nat) : Prop := n ≤ 4611686018427387904
theorem bytes_ch : Tryz.prog.bytesOf 75 = 32 := by kernel_rfl
theorem bytes_op : Tryz.prog.bytesOf 32 = 56 := by kernel_rfl
set_option maxRecDepth 100000 in
theorem open_chs {fuel : Nat} {v : Value} {x : DataW H × List MemPlace} (h : DataW.trod enc Tryz.prog w base spare held fuel 30 [v] = some x) (hs : ∀ n ∈ x.1.weights Tryz.prog 30, Small n) :
    ∃ l, ChsAt w v l ∧ l.length ≤ 4611686018427387904 := by
  rcases open_slice_fields Tryz.underlying30 Tryz.underlying75 (by kernel_rfl) (by kernel_rfl) h with ⟨hcs, -⟩ | ⟨a, len, cap, m, D, Pl, hcs, hb, hl, hm, hmm, hx, hi⟩
  · simp at hcs; subst hcs
    exact ⟨[], ⟨none, 0, 0, 0, rfl, fun h => absurd rfl h, fun i hi => by simp at hi⟩, by simp⟩
  · simp at hcs; subst hcs
    have hlm : len ≤ m := by rw [hmm]; split <;> omega
    have key : ∀ i, i < len → ∃ e : Ch, w.cell? (a.add (i * 3)) = some (I e.key) ∧ w.cell? (a.add (i * 3 + 1)) = some (S e.val) ∧ w.cell? (a.add (i * 3 + 2)) = some (.bool e.drop) := by
      intro i hil
      obtain ⟨ys, n, hD, -, hyl, hf⟩ := hi i (by omega)
      obtain ⟨u0, y0, e0, f0, t0⟩ := hf 0 _ rfl
      obtain ⟨u1, y1, e1, f1, t1⟩ := hf 1 _ rfl
      obtain ⟨u2, y2, e2, f2, t2⟩ := hf 2 _ rfl
      obtain ⟨n0, rfl⟩ := open_int1 t0
      obtain ⟨s1, rfl⟩ := open_str1 t1
      obtain ⟨b2, rfl⟩ := open_bool1 t2
      exact ⟨⟨n0, s1, b2⟩, e0, e1, e2⟩
    haveI : Inhabited Ch := ⟨⟨0, [], false⟩⟩
    obtain ⟨f, hf⟩ := choose_lt key
    have hlen : len ≤ 4611686018427387904 := by
      rw [hx] at hs
      have h1 := hs ((((List.range len).map D).length + ((List.range (m - len)).map fun j => D (len + j)).length) * Tryz.prog.bytesOf 75) (by
        simp only [DataW.weights, Tryz.underlying30]
        exact List.mem_cons_self)
      rw [bytes_ch] at h1
      simp only [List.length_map, List.length_range] at h1
      unfold Small at h1
      omega
    refine ⟨(List.range len).map f, ?_, by simpa using hlen⟩
    obtain ⟨b, off, spot⟩ := a
    refine ⟨some ⟨b, off, spot⟩, cap, b, off, by simp, fun hne => ?_, fun i hi => ?_⟩
    · have hpos : 0 < len := by
        rcases Nat.eq_zero_or_pos len with h0 | h0
        · subst h0; simp at hne
        · exact h0
      have hspot : spot = none := by simpa [Addr.add] using World.cell?_spot (hf 0 hpos).1
      rw [hspot]
    · have hil : i < len := by simpa using hi
      have hspot : spot = none := by simpa [Addr.add] using World.cell?_spot (hf 0 (by omega)).1
      subst hspot
      obtain ⟨g0, g1, g2⟩ := hf i hil
      simp only [List.getElem_map, List.getElem_range]
      rw [Addr.add_lit] at g0 g1 g2
      exact ⟨g0, g1, g2⟩
set_option maxRecDepth 100000 in
theorem open_script {fuel : Nat} {v : Value} {x : DataW H × List MemPlace} (h : DataW.trod enc Tryz.prog w base spare held fuel 22 [v] = some x) (hs : ∀ n ∈ x.1.weights Tryz.prog 22, Small n) :
    ∃ l, OpsAt w v l := by
  rcases open_slice_fields Tryz.underlying22 Tryz.underlying32 (by kernel_rfl) (by kernel_rfl) h with ⟨hcs, -⟩ | ⟨a, len, cap, m, D, Pl, hcs, hb, hl, hm, hmm, hx, hi⟩
  · simp at hcs; subst hcs
    exact ⟨[], none, 0, 0, 0, rfl, fun h => absurd rfl h, fun i hi => by simp at hi, fun x hx => (by cases hx), by simp⟩
  · simp at hcs; subst hcs
    have hlm : len ≤ m := by rw [hmm]; split <;> omega
    have key : ∀ i, i < len → ∃ e : OpC, w.cell? (a.add (i * 5)) = some (I e.kind) ∧ w.cell? (a.add (i * 5 + 1)) = some (I e.n) ∧ w.cell? (a.add (i * 5 + 2)) = some (I e.keep) ∧ w.cell? (a.add (i * 5 + 3)) = some (B e.mask) ∧ (∃ cv, w.cell? (a.add (i * 5 + 4)) = some cv ∧ ChsAt w cv e.ch) ∧ e.ch.length ≤ 4611686018427387904 := by
      intro i hil
      obtain ⟨ys, n, hD, -, hyl, hf⟩ := hi i (by omega)
      obtain ⟨u0, y0, e0, f0, t0⟩ := hf 0 _ rfl
      obtain ⟨u1, y1, e1, f1, t1⟩ := hf 1 _ rfl
      obtain ⟨u2, y2, e2, f2, t2⟩ := hf 2 _ rfl
      obtain ⟨u3, y3, e3, f3, t3⟩ := hf 3 _ rfl
      obtain ⟨u4, y4, e4, f4, t4⟩ := hf 4 _ rfl
      obtain ⟨n0, rfl⟩ := open_int1 t0
      obtain ⟨n1, rfl⟩ := open_int1 t1
      obtain ⟨n2, rfl⟩ := open_int1 t2
      obtain ⟨c3, rfl⟩ := open_byte1 t3
      obtain ⟨l, hl4, hll⟩ := open_chs t4 (fun k hk => by
        refine hs k ?_
        rw [hx]
        simp only [DataW.weights, Tryz.underlying22, List.mem_cons, List.mem_append]
        refine .inr (.inl (weightsAll_mem (d := D i) ?_ _ (List.mem_map.2 ⟨i, List.mem_range.2 hil, rfl⟩)))
        rw [hD]
        simp only [DataW.weights, Tryz.underlying32]
        exact DataW.weights_mem_each (j := 4) (t := 30) rfl (by rw [List.getElem?_map, f4]; rfl) k hk)
      exact ⟨⟨n0, n1, n2, c3, l⟩, e0, e1, e2, e3, ⟨u4, e4, hl4⟩, hll⟩
    haveI : Inhabited OpC := ⟨⟨0, 0, 0, 0, []⟩⟩
    obtain ⟨f, hf⟩ := choose_lt key
    have hlen : len ≤ 4611686018427387904 := by
      rw [hx] at hs
      have h1 := hs ((((List.range len).map D).length + ((List.range (m - len)).map fun j => D (len + j)).length) * Tryz.prog.bytesOf 32) (by
        simp only [DataW.weights, Tryz.underlying22]
        exact List.mem_cons_self)
      rw [bytes_op] at h1
      simp only [List.length_map, List.length_range] at h1
      unfold Small at h1
      omega
    refine ⟨(List.range len).map f, ?_⟩
    obtain ⟨b, off, spot⟩ := a
    refine ⟨some ⟨b, off, spot⟩, cap, b, off, by simp, fun hne => ?_, fun i hi => ?_, fun x hx => ?_, by simpa using hlen⟩
    · have hpos : 0 < len := by
        rcases Nat.eq_zero_or_pos len with h0 | h0
        · subst h0; simp at hne
        · exact h0
      have hspot : spot = none := by simpa [Addr.add] using World.cell?_spot (hf 0 hpos).1
      rw [hspot]
    · have hil : i < len := by simpa using hi
      have hspot : spot = none := by simpa [Addr.add] using World.cell?_spot (hf 0 (by omega)).1
      subst hspot
      obtain ⟨g0, g1, g2, g3, ⟨cv, g4, g5⟩, _⟩ := hf i hil
      simp only [List.getElem_map, List.getElem_range]
      rw [Addr.add_lit] at g0 g1 g2 g3 g4
      exact ⟨g0, g1, g2, g3, cv, g4, g5⟩
    · obtain ⟨i, hi, rfl⟩ := List.mem_map.1 hx
      exact (hf i (List.mem_range.1 hi)).2.2.2.2.2
theorem two_cells {cs : Array Value} (h : cs.size = 2) : ∃ c0 c1, cs = #[c0, c1] := by
  obtain ⟨l⟩ := cs
  match l, h with
  | [c0, c1], _ => exact ⟨c0, c1, rfl⟩
set_option maxRecDepth 100000 in
theorem open_world {r : Reach} {b0 : Nat} {v : Value} {d : DataW H} {p : List MemPlace} (hv : Value.okWide Tryz.prog w r b0 24 v) (h : DataW.Trod enc Tryz.prog w base spare held 24 v d p) (hs : ∀ n ∈ d.weights Tryz.prog 24, Small n) :
    ∃ (m : Int) (sv : Value) (l : List OpC), v = .agg #[I m, sv] ∧ OpsAt w sv l := by
  obtain ⟨cs, ys, n, rfl, hsz, hd, hyl, hf⟩ := open_agg_any Tryz.underlying24 (by kernel_rfl) (by kernel_rfl) hv h
  obtain ⟨c0, c1, rfl⟩ := two_cells hsz
  obtain ⟨u0, y0, e0, f0, t0⟩ := hf 0 _ rfl
  obtain ⟨u1, y1, e1, f1, t1⟩ := hf 1 _ rfl
  simp at e0 e1
  subst e0 e1
  obtain ⟨m, rfl⟩ := open_int1 t0
  obtain ⟨l, hl⟩ := open_script t1 (fun k hk => by
    refine hs k ?_
    subst hd
    simp only [DataW.weights, Tryz.underlying24]
    exact DataW.weights_mem_each (j := 1) (t := 22) rfl (by rw [List.getElem?_map, f1]; rfl) k hk)
  exact ⟨m, _, l, rfl, hl⟩
theorem sized_world {P : Program} {ts : List TypeId} {ds : List (DataW H)} {j : Nat} {t : TypeId} {d : DataW H} (h : (DataW.weightsEach P ts ds).all (· ≤ reachBytes) = true) (ht : ts[j]? = some t) (hd : ds[j]? = some d) : ∀ n ∈ d.weights P t, Small n := by
  intro n hn
  have h1 := List.all_eq_true.1 h _ (DataW.weights_mem_each ht hd n hn)
  have h2 := reachBytes_lt
  simp at h1
  unfold Small
  omega
end

end Go.Proofs.YtncdfaocemfgfaaGreat
