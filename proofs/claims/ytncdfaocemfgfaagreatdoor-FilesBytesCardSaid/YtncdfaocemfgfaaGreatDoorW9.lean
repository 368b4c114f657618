/- Walks and lemmas on the program of this seat, used by its statements; each theorem bears its own conditions. -/
import Derived.Test.YtncdfaocemfgfaaGreatDoorW8
import Derived.Handy
import Derived.OwnWalk
import Derived.Deep.AppendLies
import Derived.IntWalk
import Derived.Deep.CutRange
import Derived.Deep.RegionHeld3
import Derived.Deep.RegionLaw
import Derived.RangeFuncFrom
import Derived.RangeFuncLeaves
import Derived.Shelf.Abstract
import Derived.OwnWalkIn
import Derived.TacticsInMore
import Derived.LoopNIn
import Derived.LoopIn
namespace Go.Proofs.YtncdfaocemfgfaaGreatDoor
open Go.RowKit
set_option linter.unusedVariables false
set_option linter.unusedSimpArgs false
set_option linter.unusedSectionVars false
open Go.RowKit
set_option linter.unusedVariables false
set_option linter.unusedSimpArgs false
set_option maxHeartbeats 8000000
set_option maxRecDepth 100000
attribute [local go_sem] Oper.semAt_some
theorem grown_cells {W W' : World} {row : Option Nat} (hg : W.grownBy W' row) (hr : ∀ r, row = some r → ∃ o : Obj, W.heap[r]? = some o ∧ o.isCells = false) {k : Nat} {cs : Array Value} {t : TypeId} {f : Nat × Nat} (hk : W.heap[k]? = some (.cells cs t f)) : W'.heap[k]? = some (.cells cs t f) := by
  refine (hg.block k (lt_of_block hk) ?_).trans hk
  intro e
  obtain ⟨o, ho, hc⟩ := hr k e.symm
  rw [hk] at ho
  cases ho
  cases hc
theorem own_grown {W W' : World} {row : Option Nat} (hg : W.grownBy W' row) (hr : ∀ r, row = some r → ∃ o : Obj, W.heap[r]? = some o ∧ o.isCells = false) {B : Nat} {t : TypeId} {size : Nat} {v : Value} {n : Nat} {xs : List Value} (h : W.ownsRow B t size v n xs) : W'.ownsRow B t size v n xs := by
  refine ⟨h.1, ?_⟩
  rcases h.2 with h0 | ⟨g, cap, cur, e, hb, hgb, hrest⟩
  · exact .inl h0
  · exact .inr ⟨g, cap, cur, e, hb, grown_cells hg hr hgb, hrest⟩
def BoxAt (W : World) (o : Nat) (B : Nat) (pre : List Nat) : Prop := ∃ v, W.heap[o]? = some (.cells #[v] 109 (0, 0)) ∧ W.ownsRow B 3 1 v pre.length (pre.map fun x : Nat => I x)
theorem boxAt_grown {W W' : World} {row : Option Nat} (hg : W.grownBy W' row) (hr : ∀ r, row = some r → ∃ o : Obj, W.heap[r]? = some o ∧ o.isCells = false) {o B : Nat} {pre : List Nat} (h : BoxAt W o B pre) : BoxAt W' o B pre := by
  obtain ⟨v, h1, h2⟩ := h
  exact ⟨v, grown_cells hg hr h1, own_grown hg hr h2⟩
theorem kept_from {a W W' : World} {row : Option Nat} (k : Kept [] a W) (hg : W.grownBy W' row) (hr : ∀ r, row = some r → a.heap.size ≤ r) : Kept [] a W' :=
  ⟨hg.os.trans k.os, hg.tape.trans k.tape, hg.output.trans k.output, Nat.le_trans k.size hg.size, fun i hi hn => (hg.block i (Nat.lt_of_lt_of_le hi k.size) (fun e => by have := hr i e.symm; omega)).trans (k.block i hi hn)⟩
theorem segI_own (a : World) (o B C : Nat) (hC : a.heap.size ≤ C) : OwnFrom C (fun (pre : List Nat) W => BoxAt W o B pre ∧ Kept [] a W) :=
  fun s W W' row hs hg hr => ⟨boxAt_grown hg (fun r e => (hr r e).2) hs.1, kept_from hs.2 hg (fun r e => Nat.le_trans hC (hr r e).1)⟩
set_option maxRecDepth 100000 in
set_option maxHeartbeats 2000000 in
theorem all1_in (n l bx lb g c n0 : Nat) (segs : List Sg) (hs : segs.length ≤ 1000) (hlb : lb < n0) (hgn : g < n0) (J Jx : List Nat → World → Prop)
    (W : World) (hJ : AbidesFrom W.heap.size J)
    (hY : ∀ pre x W1, J pre W1 → pre.length < segs.length → YieldAt Fence.wide (n - 1) Tryz.prog l #[I (x : Nat)] W1 fun e W' =>
      (e = .returned (.bool true) ∧ J (pre ++ [x]) W' ∧ Below n0 W1 W') ∨ (e = .returned (.bool false) ∧ Jx (pre ++ [x]) W'))
    (hbx : W.cell? ⟨bx, 0, none⟩ = some (Ptr lb)) (hv : W.cell? ⟨lb, 1, none⟩ = some (.slice (some ⟨g, 0, none⟩) segs.length c))
    (hcl : ∀ (i : Nat) (hi : i < segs.length), W.cell? ⟨g, i * 2, none⟩ = some (I segs[i].1) ∧ W.cell? ⟨g, i * 2 + 1, none⟩ = some (I segs[i].2)) (h0 : J [] W) (hn0 : n0 ≤ W.heap.size) :
    CallsIn Fence.wide n Tryz.prog 206 #[.func (.yield l) #[] #[], .pointer (some ⟨bx, 0, none⟩)] W fun e W' => (∃ v, e = .returned v) ∧
      ((∃ ys, ys = segs.map (·.2) ∧ J ys W') ∨ (∃ pre, True ∧ Jx pre W')) := by
  have hsI : (segs.length : Int) ≤ 1000 := by omega
  have HC := Lib.hid (And.intro hcl hY)
  have HJ := Lib.hid hJ
  clear hcl hY hJ
  refine callsIn_of_wp Tryz.func206 rfl trivial ?_ rfl
  simp only [Tryz.ntmps206, List.size_toArray, List.length_cons, List.length_nil, Nat.reduceAdd, Nat.reduceSub, Array.replicate_succ, Array.replicate_zero, List.push_toArray, List.append_toArray, List.nil_append, List.cons_append]
  gi_wp2
  gi_loopw [10] (fun i wr => ∃ j : Nat, j ≤ segs.length ∧ i = I j ∧ J ((segs.take j).map (·.2)) wr ∧ Below n0 W wr) (fun i _ => segs.length - (intOf i).toNat)
  case atStart => exact ⟨0, by omega, rfl, h0, Below.refl _ _⟩
  case round =>
    obtain ⟨j, hj, rfl, hJs, hb⟩ := hrel
    by_cases hlt : j < segs.length
    · have hltI : (j : Int) < segs.length := by omega
      have hj0 : (0 : Int) ≤ j := by omega
      obtain ⟨a0, a1⟩ := HC.out.1 j hlt
      have e0 := (hb.cell (p := ⟨g, j * 2, none⟩) hgn).trans a0
      have e1 := (hb.cell (p := ⟨g, j * 2 + 1, none⟩) hgn).trans a1
      clear a0 a1
      have hJ2 := HJ.out ((segs.take j).map (·.2)) wr (wr.alloc (Obj.cells #[I segs[j].1, I segs[j].2] 214)) none hJs (World.grownBy_alloc _ _ _) (fun r e => by cases e)
      obtain ⟨fn, tmps, assign, body, hy, hR⟩ := HC.out.2 _ segs[j].2 _ hJ2 (by rw [List.length_map, List.length_take]; omega)
      have hsz := World.size_alloc wr (Obj.cells #[I segs[j].1, I segs[j].2] 214)
      have HB := Lib.hid (And.intro hb hJs)
      have HR := Lib.hid hR
      clear hb hJs hR hJ2 hsz
      gi_wp2
      refine ⟨(fun h => by cases h), ?_⟩
      refine HR.out.mono ?_
      rintro e W3 (⟨rfl, hJ3, hk3⟩ | ⟨rfl, hJx3⟩)
      · have hb3 : Below n0 W W3 := (HB.out.1.trans ((Below.refl n0 wr).alloc (Nat.le_trans hn0 HB.out.1.size) _)).trans hk3
        have hjs : (segs.take j).map (·.2) ++ [segs[j].2] = (segs.take (j + 1)).map (·.2) := by
          rw [List.take_add_one, List.getElem?_eq_getElem hlt, List.map_append]; rfl
        rw [hjs] at hJ3
        have H3 := Lib.hid (And.intro hJ3 hb3)
        clear hJ3 hb3 hjs hk3
        gi_wp2
        go_roundw
        case rel => exact ⟨j + 1, by omega, by go_num, H3.out.1, H3.out.2⟩
        case measure => simp [intOf]; omega
      · gi_wp2
        refine bodyPost_ret (results_none rfl _ _ _) rfl ?_
        exact ⟨⟨_, rfl⟩, .inr ⟨_, trivial, hJx3⟩⟩
    · have hje : j = segs.length := by omega
      have hjf : ¬ (j : Int) < segs.length := by omega
      have hjb : decide ((j : Int) < segs.length) = false := decide_eq_false hjf
      rw [hje, List.take_length] at hJs
      have HB := Lib.hid hJs
      clear hJs hb
      gi_wp2
      go_end0
      exact ⟨⟨_, rfl⟩, .inl (by first | exact HB.out | exact ⟨_, rfl, HB.out⟩)⟩
theorem all_in (n : Nat) (lb : Nat) (w : World) :
    CallsIn Fence.wide n Tryz.prog 174 #[Ptr lb] w fun e w' => e = .returned (.func (.func 206) #[] #[.pointer (some ⟨w.heap.size, 0, none⟩)]) ∧ w' = w.alloc (.cells #[Ptr lb] 156) := by
  refine callsIn_of_wp Tryz.func174 rfl trivial ?_ rfl
  simp only [Tryz.ntmps174, List.size_toArray, List.length_cons, List.length_nil, Nat.reduceAdd, Nat.reduceSub, Array.replicate_succ, Array.replicate_zero, List.push_toArray, List.append_toArray, List.nil_append, List.cons_append]
  gi_wp2
  go_ret
  exact ⟨rfl, rfl⟩
theorem all_stops (n bx lb g c n0 : Nat) (segs : List Sg) (hs : segs.length ≤ 1000) (hlb : lb < n0) (hgn : g < n0) (w : World) (hbx : bx < w.heap.size) (hn0 : n0 ≤ w.heap.size)
    (hb : w.cell? ⟨bx, 0, none⟩ = some (Ptr lb)) (hv : w.cell? ⟨lb, 1, none⟩ = some (.slice (some ⟨g, 0, none⟩) segs.length c))
    (hcl : ∀ (i : Nat) (hi : i < segs.length), w.cell? ⟨g, i * 2, none⟩ = some (I segs[i].1) ∧ w.cell? ⟨g, i * 2 + 1, none⟩ = some (I segs[i].2)) :
    SeqStopsK Fence.wide n Tryz.prog 206 #[.pointer (some ⟨bx, 0, none⟩)] (fun x : Nat => #[I x]) (Below n0) (fun ys => ys = segs.map (·.2)) (fun _ => True) segs.length w := fun l J Jx W hW hJ _ hY h0 => by
  have hl : lb < w.heap.size := by omega
  have hg : g < w.heap.size := by omega
  exact all1_in n l bx lb g c n0 segs hs hlb hgn J Jx W hJ hY ((hW.cell (p := ⟨bx, 0, none⟩) hbx).trans hb) ((hW.cell (p := ⟨lb, 1, none⟩) hl).trans hv) (fun i hi => ⟨(hW.cell (p := ⟨g, i * 2, none⟩) hg).trans (hcl i hi).1, (hW.cell (p := ⟨g, i * 2 + 1, none⟩) hg).trans (hcl i hi).2⟩) h0 (Nat.le_trans hn0 hW.size)
theorem int_info : (Tryz.prog.info? 3).map (fun i => (i.zero, i.size, i.bytes)) = some (some (.int .i64 0), 1, 8) := by kernel_rfl
set_option maxRecDepth 100000 in
set_option maxHeartbeats 2000000 in
theorem segs_in (w : World) (lb pb fb bb cb fs n : Nat) (v : Value) (segs : List Sg) (f : Fl) (dead : Bool) (h : LgAt w lb pb fb bb cb fs n v segs f dead) (hne : segs ≠ []) (hs : segs.length ≤ 1000) :
    CallsIn Fence.wide 9 Tryz.prog 141 #[Ptr lb] w fun e w' => ∃ v', e = .returned v' ∧ w'.ownsRow (w.heap.size + 1) 3 1 v' segs.length ((segs.map (·.2)).map fun x : Nat => I x) ∧ Kept [] w w' := by
  obtain ⟨g, c, hv, hcl⟩ := h.slice hne
  obtain ⟨c0, c1, c2⟩ := h.cells
  have hlt := h.lt
  have hg : g < w.heap.size := World.block_lt_of_cell? w _ (hcl 0 (by have := List.length_pos_iff.2 hne; omega)).1
  obtain ⟨i0, hi, hz0, hz1, hz2⟩ := info_parts int_info
  subst hv
  have k2 : Kept [] w ((w.alloc (.cells #[.slice none 0 0] 109)).alloc (.cells #[Ptr lb] 156)) := ((Kept.refl _ _).alloc _).alloc _
  have hst := all_stops 8 (w.heap.size + 1) lb g c w.heap.size segs hs hlt hg ((w.alloc (.cells #[.slice none 0 0] 109)).alloc (.cells #[Ptr lb] 156)) (by simp) (by simp; omega)
    (by have := heap_new (w.alloc (.cells #[.slice none 0 0] 109)) (.cells #[Ptr lb] 156)
        rw [World.size_alloc] at this
        exact cell_at this 0) (k2.cellOf c1) (fun i hi => ⟨k2.cellOf (hcl i hi).1, k2.cellOf (hcl i hi).2⟩)
  have hbx : BoxAt ((w.alloc (.cells #[.slice none 0 0] 109)).alloc (.cells #[Ptr lb] 156)) w.heap.size (w.heap.size + 1) [] :=
    ⟨.slice none 0 0, ((Kept.refl [] (w.alloc (.cells #[.slice none 0 0] 109))).alloc _).at (heap_new w _) (by simp), rfl, .inl ⟨rfl, rfl⟩⟩
  have HST := Lib.hid hst
  have H0 := Lib.hid (And.intro hbx k2)
  have HI := Lib.hid (And.intro hi (And.intro hz0 (And.intro hz1 hz2)))
  clear hst hbx k2 hi hz0 hz1 hz2 h c0 c1 c2 hcl hlt hg hne
  refine callsIn_of_wp_marks Tryz.func141 rfl trivial ?_ rfl
  simp only [Tryz.ntmps141, List.size_toArray, List.length_cons, List.length_nil, Nat.reduceAdd, Nat.reduceSub, Array.replicate_succ, Array.replicate_zero, List.push_toArray, List.append_toArray, List.nil_append, List.cons_append]
  gi_wp2
  refine ⟨trivial, ?_⟩
  refine (all_in 8 _ _).mono ?_
  rintro e w' ⟨rfl, rfl⟩
  gi_wp2
  refine wpIn_rangeFunc_ownF rfl (by decide) (gf := 206) (lb := #[.pointer (some ⟨w.heap.size + 1, 0, none⟩)]) rfl trivial (enters_of Tryz.func206 (by kernel_rfl) rfl) HST.out belowK_t (belowK_b (by simp; omega)) (Below.refl _ _) (fun _ => rfl)
    (fun pre W => BoxAt W w.heap.size (w.heap.size + 1) pre ∧ Kept [] w W) (fun _ _ _ => False) (segI_own w _ _ _ (by simp; omega)) (fun _ _ _ _ _ h _ _ => h) H0.out
    (fun x => { tmps := #[Ptr lb, undef, .slice none 0 0, .pointer (some ⟨w.heap.size, 0, none⟩), I x, Ptr lb, .func (.func 206) #[] #[.pointer (some ⟨w.heap.size + 1, 0, none⟩)], I x, undef, undef, undef, undef, undef], defers := [] }) ?assign ?body ?done ?stop
  case assign =>
    intro l x W K hK
    gi_wp2
    exact hK
  case body =>
    rintro l pre x W ⟨⟨v, hb, own⟩, k⟩ hlen
    have c0 := cell_at hb 0
    have f0 := free_at hb 0
    simp only [List.getElem?_toArray, List.getElem?_cons_zero] at c0
    obtain ⟨hi, hz0, hz1, hz2⟩ := HI.out
    have hol := lt_of_block hb
    have HW := Lib.hid (And.intro hb (And.intro own k))
    have hpl : pre.length ≤ 1000 := by omega
    clear hb k
    gi_wp2_with (first
      | (gi_at_builtin
         refine wpListIn_append_own _ rfl (.tmp 8) (.tmp 10) 109 rfl (w.heap.size + 1) 3 i0 (.int .i64 0) 1 8 Tryz.underlying109 hi hz0 hz1 hz2 rfl (by decide) v _ _ rfl (own_kept own ((Kept.refl [] W).alloc _) (by simp)) ⟨W.heap.size, 0, none⟩ 1 1 [I x] rfl rfl (World.news_of_block (heap_new W _)) (by intro u hu; simp at hu; subst hu; rfl) (by unfold maxLen; omega) (by omega) (by rw [World.size_alloc]; omega) ?_
         intro v' w3 own3 hg3 hnil3
         have hb3 : w3.heap[w.heap.size]? = some (.cells #[v] 109 (0, 0)) := (hg3.block _ (by rw [World.size_alloc]; omega) (fun e => by have := (own_lt own _ e.symm).1; omega)).trans (((Kept.refl [] W).alloc _).at HW.out.1 (by simp))
         have c3 := cell_at hb3 0
         simp only [List.getElem?_toArray, List.getElem?_cons_zero] at c3
         obtain ⟨p3, cp3, rfl⟩ := own_form own3
         have f3 := free_at hb3 0
         have H3 := Lib.hid (And.intro own3 (And.intro hg3 hb3))
         clear own3 hg3 hnil3 hb3 c0 f0
         go_frame))
    obtain ⟨own3, hg3, hb3⟩ := H3.out
    obtain ⟨hb, own, k⟩ := HW.out
    have hcells : ∀ (j : Nat) (o : Obj), v.ownBlock = some j → (W.alloc (Obj.cells #[I x] 3)).heap[j]? = some o → o.isCells = true := by
      intro j o hj ho
      rcases own.2 with ⟨rfl, _⟩ | ⟨g, cap, cur, rfl, hbg, hg, _⟩
      · cases hj
      · have : g = j := by simpa [Value.ownBlock] using hj
        subst this
        rw [((Kept.refl [] W).alloc (Obj.cells #[I x] 3)).at hg (by simp)] at ho
        cases ho; rfl
    have hk4 : Kept [w.heap.size] w3 (w3.setCell ⟨w.heap.size, 0, none⟩ (.slice p3 (pre.length + 1) cp3)) := (Kept.refl _ _).setCell (.inl (by simp)) _
    have hkk : Kept [] w (w3.setCell ⟨w.heap.size, 0, none⟩ (.slice p3 (pre.length + 1) cp3)) := ((k.alloc (Obj.cells #[I x] 3)).new (kept_grown hg3) (fun q hq => by have := (own_lt own q (by simpa using hq)).1; omega)).new hk4 (by intro q hq; simp at hq; omega)
    refine ⟨(KeepsOthers.alloc W _).trans ((KeepsOthers.of_grownBy hg3 hcells).trans (KeepsOthers.setCell _ _ _)), ?_, ⟨_, by have := heap_setCell_at hb3 0 (.slice p3 (pre.length + 1) cp3); simpa using this, ?_⟩, hkk⟩
    · exact (((Below.refl w.heap.size W).alloc (by omega) _).grown hg3 (by rw [World.size_alloc]; omega) (fun q hq => by have := (own_lt own q hq).1; omega)).setCell (p := ⟨w.heap.size, 0, none⟩) (Nat.le_refl _) _
    · rw [List.length_append, List.map_append]
      exact own_kept own3 hk4 (fun q hq hm => by have := (own_lt own3 q hq).1; simp at hm; omega)
  case done =>
    rintro D ys W hD rfl ⟨⟨v, hb, own⟩, k⟩ hK
    have c0 := cell_at hb 0
    simp only [List.getElem?_toArray, List.getElem?_cons_zero] at c0
    have HW := Lib.hid (And.intro hb (And.intro own k))
    clear hb own k
    gi_wp2
    refine ⟨by simp, .inl ⟨_, _, rfl, run_takeDeferred hK, ?_⟩⟩
    obtain ⟨hb, own, k⟩ := HW.out
    have hg := grownBy_putObj' W D (.deferred none)
    have hrow : ∀ r, some D = some r → ∃ o : Obj, W.heap[r]? = some o ∧ o.isCells = false := fun r e => by cases e; exact ⟨_, hK, rfl⟩
    refine ⟨_, results_tmp rfl _ _ _, v, rfl, ?_, kept_from k hg (fun r e => by cases e; simp at hD; omega)⟩
    have := own_grown hg hrow own
    simpa using this
  case stop =>
    rintro D c pre W _ _ h _
    exact h.elim
theorem segs_any (w : World) (lb pb fb bb cb fs n : Nat) (v : Value) (segs : List Sg) (f : Fl) (dead : Bool) (h : LgAt w lb pb fb bb cb fs n v segs f dead) (hne : segs ≠ []) (hs : segs.length ≤ 1000) :
    Calls Tryz.prog 141 #[Ptr lb] w fun e w' => ∃ v', e = .returned v' ∧ w'.ownsRow (w.heap.size + 1) 3 1 v' segs.length ((segs.map (·.2)).map fun x : Nat => I x) ∧ Kept [] w w' :=
  (callsIn_wide (n := 9)).1 (segs_in w lb pb fb bb cb fs n v segs f dead h hne hs)
end Go.Proofs.YtncdfaocemfgfaaGreatDoor
