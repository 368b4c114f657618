/- Walks and lemmas on the program of this seat, used by its statements; each theorem bears its own conditions. -/
import Derived.Test.YtncdfaocemfgfaaGreatOS
import Derived.Handy
import Derived.OwnWalk
import Derived.Deep.AppendLies
import Derived.IntWalk
import Derived.Deep.CutRange
import Derived.Deep.RegionHeld3
import Derived.Deep.RegionLaw
import Derived.RangeFuncFrom
import Derived.RangeFuncLeaves
import Derived.Shelf.Abstract
import Derived.OwnWalkIn
import Derived.TacticsInMore
import Derived.LoopNIn
import Derived.LoopIn
import Derived.Maps.OwnSet
import Derived.Maps.Range
namespace Go.Proofs.YtncdfaocemfgfaaGreat
open Go.RowKit
set_option linter.unusedVariables false
set_option linter.unusedSimpArgs false
section
set_option maxHeartbeats 8000000
set_option maxRecDepth 100000
/-! ### The iterator over the segments -/
attribute [local go_sem] Oper.semAt_some
theorem grown_cells {W W' : World} {row : Option Nat} (hg : W.grownBy W' row) (hr : ∀ r, row = some r → ∃ o : Obj, W.heap[r]? = some o ∧ o.isCells = false) {k : Nat} {cs : Array Value} {t : TypeId} {f : Nat × Nat} (hk : W.heap[k]? = some (.cells cs t f)) : W'.heap[k]? = some (.cells cs t f) := by
  refine (hg.block k (lt_of_block hk) ?_).trans hk
  intro e
  obtain ⟨o, ho, hc⟩ := hr k e.symm
  rw [hk] at ho
  cases ho
  cases hc
theorem own_grown {W W' : World} {row : Option Nat} (hg : W.grownBy W' row) (hr : ∀ r, row = some r → ∃ o : Obj, W.heap[r]? = some o ∧ o.isCells = false) {B : Nat} {t : TypeId} {size : Nat} {v : Value} {n : Nat} {xs : List Value} (h : W.ownsRow B t size v n xs) : W'.ownsRow B t size v n xs := by
  refine ⟨h.1, ?_⟩
  rcases h.2 with h0 | ⟨g, cap, cur, e, hb, hgb, hrest⟩
  · exact .inl h0
  · exact .inr ⟨g, cap, cur, e, hb, grown_cells hg hr hgb, hrest⟩
def BoxAt (W : World) (o : Nat) (B : Nat) (pre : List Nat) : Prop := ∃ v, W.heap[o]? = some (.cells #[v] 65 (0, 0)) ∧ W.ownsRow B 3 1 v pre.length (pre.map fun x : Nat => I x)
theorem boxAt_grown {W W' : World} {row : Option Nat} (hg : W.grownBy W' row) (hr : ∀ r, row = some r → ∃ o : Obj, W.heap[r]? = some o ∧ o.isCells = false) {o B : Nat} {pre : List Nat} (h : BoxAt W o B pre) : BoxAt W' o B pre := by
  obtain ⟨v, h1, h2⟩ := h
  exact ⟨v, grown_cells hg hr h1, own_grown hg hr h2⟩
theorem kept_from {a W W' : World} {row : Option Nat} (k : Kept [] a W) (hg : W.grownBy W' row) (hr : ∀ r, row = some r → a.heap.size ≤ r) : Kept [] a W' :=
  ⟨hg.os.trans k.os, hg.tape.trans k.tape, hg.output.trans k.output, Nat.le_trans k.size hg.size, fun i hi hn => (hg.block i (Nat.lt_of_lt_of_le hi k.size) (fun e => by have := hr i e.symm; omega)).trans (k.block i hi hn)⟩
theorem segI_own (a : World) (o B C : Nat) (hC : a.heap.size ≤ C) : OwnFrom C (fun (pre : List Nat) W => BoxAt W o B pre ∧ Kept [] a W) :=
  fun s W W' row hs hg hr => ⟨boxAt_grown hg (fun r e => (hr r e).2) hs.1, kept_from hs.2 hg (fun r e => Nat.le_trans hC (hr r e).1)⟩
set_option maxRecDepth 100000 in
set_option maxHeartbeats 2000000 in
theorem all1_in (n l bx lb g c n0 : Nat) (segs : List Sg) (hs : segs.length ≤ 1000) (hlb : lb < n0) (hgn : g < n0) (J Jx : List Nat → World → Prop)
    (W : World) (hJ : AbidesFrom W.heap.size J)
    (hY : ∀ pre x W1, J pre W1 → pre.length < segs.length → YieldAt Fence.wide (n - 1) Tryz.prog l #[I (x : Nat)] W1 fun e W' =>
      (e = .returned (.bool true) ∧ J (pre ++ [x]) W' ∧ Below n0 W1 W') ∨ (e = .returned (.bool false) ∧ Jx (pre ++ [x]) W'))
    (hbx : W.cell? ⟨bx, 0, none⟩ = some (Ptr lb)) (hv : W.cell? ⟨lb, 1, none⟩ = some (.slice (some ⟨g, 0, none⟩) segs.length c))
    (hcl : ∀ (i : Nat) (hi : i < segs.length), W.cell? ⟨g, i * 2, none⟩ = some (I segs[i].1) ∧ W.cell? ⟨g, i * 2 + 1, none⟩ = some (I segs[i].2)) (h0 : J [] W) (hn0 : n0 ≤ W.heap.size) :
    CallsIn Fence.wide n Tryz.prog 98 #[.func (.yield l) #[] #[], .pointer (some ⟨bx, 0, none⟩)] W fun e W' => (∃ v, e = .returned v) ∧
      ((∃ ys, ys = segs.map (·.2) ∧ J ys W') ∨ (∃ pre, True ∧ Jx pre W')) := by
  have hsI : (segs.length : Int) ≤ 1000 := by omega
  have HC := Lib.hid (And.intro hcl hY)
  have HJ := Lib.hid hJ
  clear hcl hY hJ
  refine callsIn_of_wp Tryz.func98 rfl trivial ?_ rfl
  simp only [Tryz.ntmps98, List.size_toArray, List.length_cons, List.length_nil, Nat.reduceAdd, Nat.reduceSub, Array.replicate_succ, Array.replicate_zero, List.push_toArray, List.append_toArray, List.nil_append, List.cons_append]
  gi_wp2
  gi_loopw [10] (fun i wr => ∃ j : Nat, j ≤ segs.length ∧ i = I j ∧ J ((segs.take j).map (·.2)) wr ∧ Below n0 W wr) (fun i _ => segs.length - (intOf i).toNat)
  case atStart => exact ⟨0, by omega, rfl, h0, Below.refl _ _⟩
  case round =>
    obtain ⟨j, hj, rfl, hJs, hb⟩ := hrel
    by_cases hlt : j < segs.length
    · have hltI : (j : Int) < segs.length := by omega
      have hj0 : (0 : Int) ≤ j := by omega
      obtain ⟨a0, a1⟩ := HC.out.1 j hlt
      have e0 := (hb.cell (p := ⟨g, j * 2, none⟩) hgn).trans a0
      have e1 := (hb.cell (p := ⟨g, j * 2 + 1, none⟩) hgn).trans a1
      clear a0 a1
      have hJ2 := HJ.out ((segs.take j).map (·.2)) wr (wr.alloc (Obj.cells #[I segs[j].1, I segs[j].2] 98)) none hJs (World.grownBy_alloc _ _ _) (fun r e => by cases e)
      obtain ⟨fn, tmps, assign, body, hy, hR⟩ := HC.out.2 _ segs[j].2 _ hJ2 (by rw [List.length_map, List.length_take]; omega)
      have hsz := World.size_alloc wr (Obj.cells #[I segs[j].1, I segs[j].2] 98)
      have HB := Lib.hid (And.intro hb hJs)
      have HR := Lib.hid hR
      clear hb hJs hR hJ2 hsz
      gi_wp2
      refine ⟨(fun h => by cases h), ?_⟩
      refine HR.out.mono ?_
      rintro e W3 (⟨rfl, hJ3, hk3⟩ | ⟨rfl, hJx3⟩)
      · have hb3 : Below n0 W W3 := (HB.out.1.trans ((Below.refl n0 wr).alloc (Nat.le_trans hn0 HB.out.1.size) _)).trans hk3
        have hjs : (segs.take j).map (·.2) ++ [segs[j].2] = (segs.take (j + 1)).map (·.2) := by
          rw [List.take_add_one, List.getElem?_eq_getElem hlt, List.map_append]; rfl
        rw [hjs] at hJ3
        have H3 := Lib.hid (And.intro hJ3 hb3)
        clear hJ3 hb3 hjs hk3
        gi_wp2
        go_roundw
        case rel => exact ⟨j + 1, by omega, by go_num, H3.out.1, H3.out.2⟩
        case measure => simp [intOf]; omega
      · gi_wp2
        refine bodyPost_ret (results_none rfl _ _ _) rfl ?_
        exact ⟨⟨_, rfl⟩, .inr ⟨_, trivial, hJx3⟩⟩
    · have hje : j = segs.length := by omega
      have hjf : ¬ (j : Int) < segs.length := by omega
      have hjb : decide ((j : Int) < segs.length) = false := decide_eq_false hjf
      rw [hje, List.take_length] at hJs
      have HB := Lib.hid hJs
      clear hJs hb
      gi_wp2
      go_end0
      exact ⟨⟨_, rfl⟩, .inl (by first | exact HB.out | exact ⟨_, rfl, HB.out⟩)⟩
theorem all_in (n : Nat) (lb : Nat) (w : World) :
    CallsIn Fence.wide n Tryz.prog 73 #[Ptr lb] w fun e w' => e = .returned (.func (.func 98) #[] #[.pointer (some ⟨w.heap.size, 0, none⟩)]) ∧ w' = w.alloc (.cells #[Ptr lb] 57) := by
  refine callsIn_of_wp Tryz.func73 rfl trivial ?_ rfl
  simp only [Tryz.ntmps73, List.size_toArray, List.length_cons, List.length_nil, Nat.reduceAdd, Nat.reduceSub, Array.replicate_succ, Array.replicate_zero, List.push_toArray, List.append_toArray, List.nil_append, List.cons_append]
  gi_wp2
  go_ret
  exact ⟨rfl, rfl⟩
theorem all_stops (n bx lb g c n0 : Nat) (segs : List Sg) (hs : segs.length ≤ 1000) (hlb : lb < n0) (hgn : g < n0) (w : World) (hbx : bx < w.heap.size) (hn0 : n0 ≤ w.heap.size)
    (hb : w.cell? ⟨bx, 0, none⟩ = some (Ptr lb)) (hv : w.cell? ⟨lb, 1, none⟩ = some (.slice (some ⟨g, 0, none⟩) segs.length c))
    (hcl : ∀ (i : Nat) (hi : i < segs.length), w.cell? ⟨g, i * 2, none⟩ = some (I segs[i].1) ∧ w.cell? ⟨g, i * 2 + 1, none⟩ = some (I segs[i].2)) :
    SeqStopsK Fence.wide n Tryz.prog 98 #[.pointer (some ⟨bx, 0, none⟩)] (fun x : Nat => #[I x]) (Below n0) (fun ys => ys = segs.map (·.2)) (fun _ => True) segs.length w := fun l J Jx W hW hJ _ hY h0 => by
  have hl : lb < w.heap.size := by omega
  have hg : g < w.heap.size := by omega
  exact all1_in n l bx lb g c n0 segs hs hlb hgn J Jx W hJ hY ((hW.cell (p := ⟨bx, 0, none⟩) hbx).trans hb) ((hW.cell (p := ⟨lb, 1, none⟩) hl).trans hv) (fun i hi => ⟨(hW.cell (p := ⟨g, i * 2, none⟩) hg).trans (hcl i hi).1, (hW.cell (p := ⟨g, i * 2 + 1, none⟩) hg).trans (hcl i hi).2⟩) h0 (Nat.le_trans hn0 hW.size)
/-! ### Segs -/
theorem int_info : (Tryz.prog.info? 3).map (fun i => (i.zero, i.size, i.bytes)) = some (some (.int .i64 0), 1, 8) := by kernel_rfl
set_option maxRecDepth 100000 in
set_option maxHeartbeats 2000000 in
theorem segs_in (w : World) (lb pb fb bb cb fs n : Nat) (v : Value) (segs : List Sg) (f : Fl) (dead : Bool) (h : LgAt w lb pb fb bb cb fs n v segs f dead) (hne : segs ≠ []) (hs : segs.length ≤ 1000) :
    CallsIn Fence.wide 9 Tryz.prog 53 #[Ptr lb] w fun e w' => ∃ v', e = .returned v' ∧ w'.ownsRow (w.heap.size + 1) 3 1 v' segs.length ((segs.map (·.2)).map fun x : Nat => I x) ∧ Kept [] w w' := by
  obtain ⟨g, c, hv, hcl⟩ := h.slice hne
  obtain ⟨c0, c1, c2⟩ := h.cells
  have hlt := h.lt
  have hg : g < w.heap.size := World.block_lt_of_cell? w _ (hcl 0 (by have := List.length_pos_iff.2 hne; omega)).1
  obtain ⟨i0, hi, hz0, hz1, hz2⟩ := info_parts int_info
  subst hv
  have k2 : Kept [] w ((w.alloc (.cells #[.slice none 0 0] 65)).alloc (.cells #[Ptr lb] 57)) := ((Kept.refl _ _).alloc _).alloc _
  have hst := all_stops 8 (w.heap.size + 1) lb g c w.heap.size segs hs hlt hg ((w.alloc (.cells #[.slice none 0 0] 65)).alloc (.cells #[Ptr lb] 57)) (by simp) (by simp; omega)
    (by have := heap_new (w.alloc (.cells #[.slice none 0 0] 65)) (.cells #[Ptr lb] 57)
        rw [World.size_alloc] at this
        exact cell_at this 0) (k2.cellOf c1) (fun i hi => ⟨k2.cellOf (hcl i hi).1, k2.cellOf (hcl i hi).2⟩)
  have hbx : BoxAt ((w.alloc (.cells #[.slice none 0 0] 65)).alloc (.cells #[Ptr lb] 57)) w.heap.size (w.heap.size + 1) [] :=
    ⟨.slice none 0 0, ((Kept.refl [] (w.alloc (.cells #[.slice none 0 0] 65))).alloc _).at (heap_new w _) (by simp), rfl, .inl ⟨rfl, rfl⟩⟩
  have HST := Lib.hid hst
  have H0 := Lib.hid (And.intro hbx k2)
  have HI := Lib.hid (And.intro hi (And.intro hz0 (And.intro hz1 hz2)))
  clear hst hbx k2 hi hz0 hz1 hz2 h c0 c1 c2 hcl hlt hg hne
  refine callsIn_of_wp_marks Tryz.func53 rfl trivial ?_ rfl
  simp only [Tryz.ntmps53, List.size_toArray, List.length_cons, List.length_nil, Nat.reduceAdd, Nat.reduceSub, Array.replicate_succ, Array.replicate_zero, List.push_toArray, List.append_toArray, List.nil_append, List.cons_append]
  gi_wp2
  refine ⟨trivial, ?_⟩
  refine (all_in 8 _ _).mono ?_
  rintro e w' ⟨rfl, rfl⟩
  gi_wp2
  refine wpIn_rangeFunc_ownF rfl (by decide) (gf := 98) (lb := #[.pointer (some ⟨w.heap.size + 1, 0, none⟩)]) rfl trivial (enters_of Tryz.func98 (by kernel_rfl) rfl) HST.out belowK_t (belowK_b (by simp; omega)) (Below.refl _ _) (fun _ => rfl)
    (fun pre W => BoxAt W w.heap.size (w.heap.size + 1) pre ∧ Kept [] w W) (fun _ _ _ => False) (segI_own w _ _ _ (by simp; omega)) (fun _ _ _ _ _ h _ _ => h) H0.out
    (fun x => { tmps := #[Ptr lb, undef, .slice none 0 0, .pointer (some ⟨w.heap.size, 0, none⟩), I x, Ptr lb, .func (.func 98) #[] #[.pointer (some ⟨w.heap.size + 1, 0, none⟩)], I x, undef, undef, undef, undef, undef], defers := [] }) ?assign ?body ?done ?stop
  case assign =>
    intro l x W K hK
    gi_wp2
    exact hK
  case body =>
    rintro l pre x W ⟨⟨v, hb, own⟩, k⟩ hlen
    have c0 := cell_at hb 0
    have f0 := free_at hb 0
    simp only [List.getElem?_toArray, List.getElem?_cons_zero] at c0
    obtain ⟨hi, hz0, hz1, hz2⟩ := HI.out
    have hol := lt_of_block hb
    have HW := Lib.hid (And.intro hb (And.intro own k))
    have hpl : pre.length ≤ 1000 := by omega
    clear hb k
    gi_wp2_with (first
      | (gi_at_builtin
         refine wpListIn_append_own _ rfl (.tmp 8) (.tmp 10) 65 rfl (w.heap.size + 1) 3 i0 (.int .i64 0) 1 8 Tryz.underlying65 hi hz0 hz1 hz2 rfl (by decide) v _ _ rfl (own_kept own ((Kept.refl [] W).alloc _) (by simp)) ⟨W.heap.size, 0, none⟩ 1 1 [I x] rfl rfl (World.news_of_block (heap_new W _)) (by intro u hu; simp at hu; subst hu; rfl) (by unfold maxLen; omega) (by omega) (by rw [World.size_alloc]; omega) ?_
         intro v' w3 own3 hg3 hnil3
         have hb3 : w3.heap[w.heap.size]? = some (.cells #[v] 65 (0, 0)) := (hg3.block _ (by rw [World.size_alloc]; omega) (fun e => by have := (own_lt own _ e.symm).1; omega)).trans (((Kept.refl [] W).alloc _).at HW.out.1 (by simp))
         have c3 := cell_at hb3 0
         simp only [List.getElem?_toArray, List.getElem?_cons_zero] at c3
         obtain ⟨p3, cp3, rfl⟩ := own_form own3
         have f3 := free_at hb3 0
         have H3 := Lib.hid (And.intro own3 (And.intro hg3 hb3))
         clear own3 hg3 hnil3 hb3 c0 f0
         go_frame))
    obtain ⟨own3, hg3, hb3⟩ := H3.out
    obtain ⟨hb, own, k⟩ := HW.out
    have hcells : ∀ (j : Nat) (o : Obj), v.ownBlock = some j → (W.alloc (Obj.cells #[I x] 3)).heap[j]? = some o → o.isCells = true := by
      intro j o hj ho
      rcases own.2 with ⟨rfl, _⟩ | ⟨g, cap, cur, rfl, hbg, hg, _⟩
      · cases hj
      · have : g = j := by simpa [Value.ownBlock] using hj
        subst this
        rw [((Kept.refl [] W).alloc (Obj.cells #[I x] 3)).at hg (by simp)] at ho
        cases ho; rfl
    have hk4 : Kept [w.heap.size] w3 (w3.setCell ⟨w.heap.size, 0, none⟩ (.slice p3 (pre.length + 1) cp3)) := (Kept.refl _ _).setCell (.inl (by simp)) _
    have hkk : Kept [] w (w3.setCell ⟨w.heap.size, 0, none⟩ (.slice p3 (pre.length + 1) cp3)) := ((k.alloc (Obj.cells #[I x] 3)).new (kept_grown hg3) (fun q hq => by have := (own_lt own q (by simpa using hq)).1; omega)).new hk4 (by intro q hq; simp at hq; omega)
    refine ⟨(KeepsOthers.alloc W _).trans ((KeepsOthers.of_grownBy hg3 hcells).trans (KeepsOthers.setCell _ _ _)), ?_, ⟨_, by have := heap_setCell_at hb3 0 (.slice p3 (pre.length + 1) cp3); simpa using this, ?_⟩, hkk⟩
    · exact (((Below.refl w.heap.size W).alloc (by omega) _).grown hg3 (by rw [World.size_alloc]; omega) (fun q hq => by have := (own_lt own q hq).1; omega)).setCell (p := ⟨w.heap.size, 0, none⟩) (Nat.le_refl _) _
    · rw [List.length_append, List.map_append]
      exact own_kept own3 hk4 (fun q hq hm => by have := (own_lt own3 q hq).1; simp at hm; omega)
  case done =>
    rintro D ys W hD rfl ⟨⟨v, hb, own⟩, k⟩ hK
    have c0 := cell_at hb 0
    simp only [List.getElem?_toArray, List.getElem?_cons_zero] at c0
    have HW := Lib.hid (And.intro hb (And.intro own k))
    clear hb own k
    gi_wp2
    refine ⟨by simp, .inl ⟨_, _, rfl, run_takeDeferred hK, ?_⟩⟩
    obtain ⟨hb, own, k⟩ := HW.out
    have hg := grownBy_putObj' W D (.deferred none)
    have hrow : ∀ r, some D = some r → ∃ o : Obj, W.heap[r]? = some o ∧ o.isCells = false := fun r e => by cases e; exact ⟨_, hK, rfl⟩
    refine ⟨_, results_tmp rfl _ _ _, v, rfl, ?_, kept_from k hg (fun r e => by cases e; simp at hD; omega)⟩
    have := own_grown hg hrow own
    simpa using this
  case stop =>
    rintro D c pre W _ _ h _
    exact h.elim
theorem segs_any (w : World) (lb pb fb bb cb fs n : Nat) (v : Value) (segs : List Sg) (f : Fl) (dead : Bool) (h : LgAt w lb pb fb bb cb fs n v segs f dead) (hne : segs ≠ []) (hs : segs.length ≤ 1000) :
    Calls Tryz.prog 53 #[Ptr lb] w fun e w' => ∃ v', e = .returned v' ∧ w'.ownsRow (w.heap.size + 1) 3 1 v' segs.length ((segs.map (·.2)).map fun x : Nat => I x) ∧ Kept [] w w' :=
  (callsIn_wide (n := 9)).1 (segs_in w lb pb fb bb cb fs n v segs f dead h hne hs)
end
section
set_option maxHeartbeats 8000000
set_option maxRecDepth 100000
/-! ### Lists of keys and what stands there, pure -/
section
variable {α β : Type}
def findA : List (Int × α) → Int → Option α
  | [], _ => none
  | p :: t, k => if p.1 = k then some p.2 else findA t k
def delA : List (Int × α) → Int → List (Int × α)
  | [], _ => []
  | p :: t, k => if p.1 = k then t else p :: delA t k
def insA : List (Int × α) → Int → α → List (Int × α)
  | [], k, o => [(k, o)]
  | p :: t, k, o => if k < p.1 then (k, o) :: p :: t else p :: insA t k o
def sumA (φ : α → Nat) : List (Int × α) → Nat
  | [] => 0
  | p :: t => φ p.2 + sumA φ t
def SortedA (M : List (Int × α)) : Prop := M.Pairwise (fun a b => a.1 < b.1)
def mapA (f : α → β) (M : List (Int × α)) : List (Int × β) := M.map fun p => (p.1, f p.2)
theorem find_lt {M : List (Int × α)} {k : Int} (h : ∀ p ∈ M, k < p.1) : findA M k = none := by
  induction M with
  | nil => rfl
  | cons p t ih =>
    have h1 := h p (by simp)
    unfold findA
    rw [if_neg (by omega)]
    exact ih (fun q hq => h q (by simp [hq]))
theorem find_mem {M : List (Int × α)} {k : Int} {o : α} (h : findA M k = some o) : (k, o) ∈ M := by
  induction M with
  | nil => cases h
  | cons p t ih =>
    unfold findA at h
    split at h
    · next he => cases h; subst he; simp
    · exact List.mem_cons_of_mem _ (ih h)
theorem find_of_mem {M : List (Int × α)} (hs : SortedA M) {k : Int} {o : α} (h : (k, o) ∈ M) : findA M k = some o := by
  induction M with
  | nil => cases h
  | cons p t ih =>
    obtain ⟨h1, h2⟩ := List.pairwise_cons.1 hs
    rcases List.mem_cons.1 h with rfl | h
    · simp [findA]
    · have := h1 _ h
      unfold findA
      rw [if_neg (by simp at this; omega)]
      exact ih h2 h
theorem sum_ins (φ : α → Nat) (k : Int) (o : α) : ∀ M : List (Int × α), sumA φ (insA M k o) = sumA φ M + φ o
  | [] => by simp [insA, sumA]
  | p :: t => by
    unfold insA
    split
    · simp only [sumA]; omega
    · simp only [sumA, sum_ins φ k o t]; omega
theorem sum_del (φ : α → Nat) (k : Int) : ∀ M : List (Int × α), sumA φ (delA M k) + ((findA M k).map φ).getD 0 = sumA φ M
  | [] => rfl
  | p :: t => by
    have := sum_del φ k t
    unfold delA findA
    split
    · simp only [sumA, Option.map_some, Option.getD_some]; omega
    · simp only [sumA]; omega
theorem sum_le {φ ψ : α → Nat} (h : ∀ o, φ o ≤ ψ o) : ∀ M : List (Int × α), sumA φ M ≤ sumA ψ M
  | [] => Nat.le_refl _
  | p :: t => by have := sum_le h t; have := h p.2; simp only [sumA]; omega
theorem del_sub (k : Int) : ∀ M : List (Int × α), (delA M k).Sublist M
  | [] => List.Sublist.refl _
  | p :: t => by
    unfold delA
    split
    · exact List.sublist_cons_self _ _
    · exact (del_sub k t).cons_cons _
theorem sorted_del {M : List (Int × α)} (h : SortedA M) (k : Int) : SortedA (delA M k) := List.Pairwise.sublist (del_sub k M) h
theorem mem_ins (k : Int) (o : α) (q : Int × α) : ∀ M : List (Int × α), q ∈ insA M k o → q = (k, o) ∨ q ∈ M
  | [], h => by simpa [insA] using h
  | p :: t, h => by
    unfold insA at h
    split at h
    · simpa using h
    · rcases List.mem_cons.1 h with rfl | h
      · simp
      · rcases mem_ins k o q t h with h | h
        · exact .inl h
        · exact .inr (by simp [h])
theorem sorted_ins {M : List (Int × α)} (h : SortedA M) (k : Int) (o : α) (hn : findA M k = none) : SortedA (insA M k o) := by
  induction M with
  | nil => simp [insA, SortedA]
  | cons p t ih =>
    obtain ⟨h1, h2⟩ := List.pairwise_cons.1 h
    unfold findA at hn
    split at hn
    · cases hn
    · next hne =>
      unfold insA
      split
      · next hlt =>
        refine List.pairwise_cons.2 ⟨fun q hq => ?_, h⟩
        rcases List.mem_cons.1 hq with rfl | hq
        · exact hlt
        · have := h1 q hq
          show k < q.1
          omega
      · next hge =>
        refine List.pairwise_cons.2 ⟨fun q hq => ?_, ih h2 hn⟩
        rcases mem_ins k o q t hq with rfl | hq
        · show p.1 < k
          omega
        · exact h1 q hq
theorem find_del {M : List (Int × α)} (h : SortedA M) (k j : Int) : findA (delA M k) j = if j = k then none else findA M j := by
  induction M with
  | nil => simp [delA, findA]
  | cons p t ih =>
    obtain ⟨h1, h2⟩ := List.pairwise_cons.1 h
    unfold delA
    by_cases hp : p.1 = k
    · rw [if_pos hp]
      by_cases hj : j = k
      · rw [if_pos hj]
        exact find_lt fun q hq => by have := h1 q hq; omega
      · rw [if_neg hj]
        show _ = if p.1 = j then some p.2 else findA t j
        rw [if_neg (by omega)]
    · rw [if_neg hp]
      show (if p.1 = j then some p.2 else findA (delA t k) j) = if j = k then none else if p.1 = j then some p.2 else findA t j
      rw [ih h2]
      by_cases hj : j = k
      · rw [if_pos hj, if_pos hj, if_neg (by omega)]
      · rw [if_neg hj, if_neg hj]
theorem find_ins {M : List (Int × α)} (k : Int) (o : α) (j : Int) (hn : findA M k = none) : findA (insA M k o) j = if j = k then some o else findA M j := by
  induction M with
  | nil =>
    simp only [insA, findA]
    by_cases hj : j = k
    · rw [if_pos hj, if_pos hj.symm]
    · rw [if_neg hj, if_neg (by omega)]
  | cons p t ih =>
    unfold findA at hn
    split at hn
    · cases hn
    · next hne =>
      unfold insA
      by_cases hl : k < p.1
      · rw [if_pos hl]
        show (if k = j then some o else findA (p :: t) j) = _
        by_cases hj : j = k
        · rw [if_pos hj, if_pos hj.symm]
        · rw [if_neg hj, if_neg (by omega)]
      · rw [if_neg hl]
        show (if p.1 = j then some p.2 else findA (insA t k o) j) = if j = k then some o else if p.1 = j then some p.2 else findA t j
        rw [ih hn]
        by_cases hj : j = k
        · rw [if_pos hj, if_pos hj, if_neg (by omega)]
        · rw [if_neg hj, if_neg hj]
theorem ext_sorted {M N : List (Int × α)} (h1 : SortedA M) (h2 : SortedA N) (h : ∀ k, findA M k = findA N k) : M = N := by
  induction M generalizing N with
  | nil =>
    cases N with
    | nil => rfl
    | cons q s => have := h q.1; simp [findA] at this
  | cons p t ih =>
    obtain ⟨a1, a2⟩ := List.pairwise_cons.1 h1
    cases N with
    | nil => have := h p.1; simp [findA] at this
    | cons q s =>
      obtain ⟨b1, b2⟩ := List.pairwise_cons.1 h2
      have e : p.1 = q.1 := by
        apply Decidable.byContradiction
        intro hne
        rcases (by omega : p.1 < q.1 ∨ q.1 < p.1) with hl | hl
        · have := h p.1
          rw [find_lt (M := q :: s) (fun x hx => by
            rcases List.mem_cons.1 hx with rfl | hx
            · exact hl
            · have := b1 x hx; omega)] at this
          simp [findA] at this
        · have := h q.1
          rw [find_lt (M := p :: t) (fun x hx => by
            rcases List.mem_cons.1 hx with rfl | hx
            · exact hl
            · have := a1 x hx; omega)] at this
          simp [findA] at this
      have e2 : p.2 = q.2 := by
        have := h p.1
        simp only [findA, if_pos, e] at this
        simpa using this
      have e3 : p = q := Prod.ext e e2
      subst e3
      rw [ih a2 b2 fun k => by
        by_cases hk : p.1 = k
        · subst hk
          rw [find_lt a1, find_lt b1]
        · have := h k
          simp only [findA, if_neg hk] at this
          exact this]
theorem find_map (f : α → β) (k : Int) : ∀ M : List (Int × α), findA (mapA f M) k = (findA M k).map f
  | [] => rfl
  | p :: t => by
    have := find_map f k t
    show (if p.1 = k then some (f p.2) else findA (mapA f t) k) = (if p.1 = k then some p.2 else findA t k).map f
    split
    · rfl
    · exact this
theorem sorted_map (f : α → β) {M : List (Int × α)} (h : SortedA M) : SortedA (mapA f M) := by
  unfold SortedA mapA
  rw [List.pairwise_map]
  exact h
theorem sum_map (f : α → β) (φ : β → Nat) : ∀ M : List (Int × α), sumA φ (mapA f M) = sumA (fun o => φ (f o)) M
  | [] => rfl
  | p :: t => by have := sum_map f φ t; simp only [mapA, List.map_cons, sumA] at this ⊢; rw [this]
end
/-! ### Changes -/
structure Ch where
  key : Int
  val : List UInt8
  drop : Bool
structure Ob where
  val : List UInt8
  seg : Nat
  pos : Nat
abbrev OM := List (Int × Ob)
def wF (v : List UInt8) : Nat := pagesF (7 + v.length)
def take1 (seg pos : Nat) (M : OM) (c : Ch) : OM := if c.drop then delA M c.key else insA (delA M c.key) c.key ⟨c.val, seg, pos⟩
def takesF (M : OM) (l : List Ch) (seg pos : Nat) : OM := l.foldl (take1 seg pos) M
theorem take1_sorted {M : OM} (h : SortedA M) (s a : Nat) (c : Ch) : SortedA (take1 s a M c) := by
  unfold take1
  split
  · exact sorted_del h _
  · exact sorted_ins (sorted_del h _) _ _ (by rw [find_del h, if_pos rfl])
theorem take1_find {M : OM} (h : SortedA M) (s a : Nat) (c : Ch) (j : Int) : findA (take1 s a M c) j = if j = c.key then (if c.drop then none else some ⟨c.val, s, a⟩) else findA M j := by
  unfold take1
  split
  · next hd => rw [find_del h]
  · next hd =>
    rw [find_ins _ _ _ (by rw [find_del h, if_pos rfl]), find_del h]
    by_cases hj : j = c.key
    · rw [if_pos hj, if_pos hj]
    · rw [if_neg hj, if_neg hj, if_neg hj]
theorem take1_sum (φ : Ob → Nat) {M : OM} (h : SortedA M) (s a : Nat) (c : Ch) : sumA φ (take1 s a M c) + ((findA M c.key).map φ).getD 0 = sumA φ M + (if c.drop then 0 else φ ⟨c.val, s, a⟩) := by
  have := sum_del φ c.key M
  unfold take1
  split
  · omega
  · rw [sum_ins]; omega
theorem takes_sorted (s a : Nat) (l : List Ch) : ∀ {M : OM}, SortedA M → SortedA (takesF M l s a) := by
  induction l with
  | nil => intro M h; exact h
  | cons c l ih => intro M h; exact ih (take1_sorted h s a c)
/-- The keys of changes rise. -/
def RisesC (l : List Ch) : Prop := l.Pairwise (fun a b => a.key < b.key)
theorem takes_other (s a : Nat) (l : List Ch) (j : Int) (hj : ∀ c ∈ l, c.key ≠ j) : ∀ {M : OM}, SortedA M → findA (takesF M l s a) j = findA M j := by
  induction l with
  | nil => intro M h; rfl
  | cons c l ih =>
    intro M h
    show findA (takesF (take1 s a M c) l s a) j = _
    rw [ih (fun x hx => hj x (by simp [hx])) (take1_sorted h s a c), take1_find h, if_neg (fun e => hj c (by simp) e.symm)]
theorem takes_find (s a : Nat) (l : List Ch) (hr : RisesC l) (c : Ch) (hc : c ∈ l) : ∀ {M : OM}, SortedA M → findA (takesF M l s a) c.key = if c.drop then none else some ⟨c.val, s, a⟩ := by
  induction l with
  | nil => cases hc
  | cons d l ih =>
    intro M h
    obtain ⟨h1, h2⟩ := List.pairwise_cons.1 hr
    show findA (takesF (take1 s a M d) l s a) c.key = _
    rcases List.mem_cons.1 hc with rfl | hc
    · rw [takes_other s a l c.key (fun x hx => by have := h1 x hx; omega) (take1_sorted h s a c), take1_find h, if_pos rfl]
    · exact ih h2 hc (take1_sorted h s a d)
/-! ### Records -/
def chB (c : Ch) : List UInt8 := if c.drop then 0 :: putN 4 c.key.toNat else (1 :: putN 4 c.key.toNat) ++ putN 2 c.val.length ++ c.val
def recF (l : List Ch) : List UInt8 := l.flatMap chB
theorem chB_len (c : Ch) : (chB c).length = if c.drop then 5 else 7 + c.val.length := by
  unfold chB
  split
  · simp [putN_len]
  · simp [putN_len]; omega
theorem recF_cons (c : Ch) (l : List Ch) : recF (c :: l) = chB c ++ recF l := rfl
theorem recF_sub {l m : List Ch} (h : l.Sublist m) : (recF l).length ≤ (recF m).length := by
  induction h with
  | slnil => exact Nat.le_refl _
  | cons a _ ih => rw [recF_cons, List.length_append]; omega
  | cons_cons a _ ih => rw [recF_cons, recF_cons, List.length_append, List.length_append]; omega
theorem pages_mono {a b : Nat} (h : a ≤ b) : pagesF a ≤ pagesF b := by unfold pagesF; split <;> split <;> omega
theorem pages_add (a b : Nat) : pagesF (a + b) ≤ pagesF a + pagesF b := by unfold pagesF; split <;> split <;> split <;> omega
def pgs (l : List Ch) : Nat := pagesF (recF l).length
def usedS : List (List Ch) → Nat
  | [] => 0
  | l :: t => pgs l + usedS t
theorem usedS_snoc (rs : List (List Ch)) (l : List Ch) : usedS (rs ++ [l]) = usedS rs + pgs l := by
  induction rs with
  | nil => simp [usedS]
  | cons x rs ih => simp only [List.cons_append, usedS, ih]; omega
theorem usedS_eq (rs : List (List Ch)) : usedF (rs.map recF) = usedS rs := by
  induction rs with
  | nil => rfl
  | cons x rs ih => simp only [List.map_cons, usedF, usedS, ih]; rfl
def chW (c : Ch) : Nat := if c.drop then 0 else wF c.val
def sumC : List Ch → Nat
  | [] => 0
  | c :: l => chW c + sumC l
theorem pgs_le (l : List Ch) (hd : ∀ c ∈ l, c.drop = false) (hne : l ≠ []) : pgs l ≤ sumC l := by
  induction l with
  | nil => exact absurd rfl hne
  | cons c l ih =>
    have h1 := chB_len c
    have hc := hd c (by simp)
    rw [hc] at h1
    simp only [Bool.false_eq_true, if_false] at h1
    have e : chW c = pagesF (7 + c.val.length) := by unfold chW wF; rw [hc]; rfl
    unfold pgs
    rw [recF_cons, List.length_append, h1]
    by_cases hl : l = []
    · subst hl
      simp only [sumC, e]
      have : (recF []).length = 0 := rfl
      rw [this, Nat.add_zero]; omega
    · have := ih (fun x hx => hd x (by simp [hx])) hl
      have h2 := pages_add (7 + c.val.length) (recF l).length
      unfold pgs at this
      simp only [sumC, e]
      omega
/-! ### The store, pure -/
/-- A store: how many segments were dropped; the records of its segments, but the newest; the newest one's; what stands where. -/
structure St where
  D : Nat
  init : List (List (List Ch))
  last : List (List Ch)
  M : OM
def St.segs (st : St) : List (List (List Ch)) := st.init ++ [st.last]
/-- The newest segment's number. -/
def St.num (st : St) : Nat := st.D + st.init.length + 1
def fitsS (st : St) (l : List Ch) : Prop := usedS st.last + pgs l ≤ 7
instance (st : St) (l : List Ch) : Decidable (fitsS st l) := by unfold fitsS; exact inferInstance
def appS (st : St) (l : List Ch) : St :=
  if fitsS st l then { st with last := st.last ++ [l], M := takesF st.M l st.num st.last.length }
  else { st with init := st.init ++ [st.last], last := [l], M := takesF st.M l (st.num + 1) 0 }
def keepC (M : OM) (num i : Nat) (c : Ch) : Bool := !c.drop && (match findA M c.key with | some o => o.seg == num && o.pos == i | none => false)
def cleanR (num : Nat) : List (List Ch) → Nat → St → St
  | [], _, st => st
  | r :: rs, i, st => cleanR num rs (i + 1) (if r.filter (keepC st.M num i) = [] then st else appS st (r.filter (keepC st.M num i)))
def cleanS (st : St) : St :=
  let s1 := cleanR (st.D + 1) (st.init.headD []) 0 st
  { s1 with D := st.D + 1, init := s1.init.tail }
/-- What may stand in a record. -/
def FormC (l : List Ch) : Prop := RisesC l ∧ (∀ c ∈ l, 1 ≤ c.key ∧ c.key ≤ 2147483647 ∧ c.val.length ≤ 256 ∧ (c.drop = true → c.val = [])) ∧ (recF l).length ≤ 400
/-- A record stands in a segment. -/
def RecAt (st : St) (seg pos : Nat) (l : List Ch) : Prop := ∃ j rs, st.segs[j]? = some rs ∧ seg = st.D + j + 1 ∧ rs[pos]? = some l
def Placed (st : St) : Prop := ∀ k o, findA st.M k = some o → ∃ l, RecAt st o.seg o.pos l ∧ (⟨k, o.val, false⟩ : Ch) ∈ l
/-! ### The records, replayed -/
def repR (num : Nat) : List (List Ch) → Nat → OM → OM
  | [], _, M => M
  | l :: rs, i, M => repR num rs (i + 1) (takesF M l num i)
def repS : Nat → List (List (List Ch)) → OM → OM
  | _, [], M => M
  | num, rs :: t, M => repS (num + 1) t (repR num rs 0 M)
theorem repR_snoc (num : Nat) (l : List Ch) : ∀ (rs : List (List Ch)) (i : Nat) (M : OM), repR num (rs ++ [l]) i M = takesF (repR num rs i M) l num (i + rs.length)
  | [], i, M => rfl
  | r :: rs, i, M => by
    show repR num (rs ++ [l]) (i + 1) _ = takesF (repR num rs (i + 1) _) l num (i + (rs.length + 1))
    rw [repR_snoc num l rs, show i + 1 + rs.length = i + (rs.length + 1) by omega]
theorem repS_snoc (rs : List (List Ch)) : ∀ (t : List (List (List Ch))) (num : Nat) (M : OM), repS num (t ++ [rs]) M = repR (num + t.length) rs 0 (repS num t M)
  | [], num, M => rfl
  | r :: t, num, M => by
    show repS (num + 1) (t ++ [rs]) _ = repR (num + (t.length + 1)) rs 0 (repS (num + 1) t _)
    rw [repS_snoc rs t, show num + 1 + t.length = num + (t.length + 1) by omega]
/-- The store's map is what its records tell. -/
def ReplayS (st : St) : Prop := repS (st.D + 1) st.segs [] = st.M
structure InvS (n : Nat) (st : St) : Prop where
  few : st.init.length + 1 ≤ n
  recs : ∀ rs ∈ st.segs, usedS rs ≤ 7 ∧ ∀ l ∈ rs, FormC l
  sorted : SortedA st.M
  placed : Placed st
  rep : ReplayS st
def wO (o : Ob) : Nat := wF o.val
def valM (M : OM) (k : Int) : Option (List UInt8) := (findA M k).map Ob.val
theorem formC_sub {l m : List Ch} (h : l.Sublist m) (hm : FormC m) : FormC l :=
  ⟨List.Pairwise.sublist h hm.1, fun c hc => hm.2.1 c (h.subset hc), Nat.le_trans (recF_sub h) hm.2.2⟩
theorem pgs_le7 {l : List Ch} (h : FormC l) : pgs l ≤ 7 := by
  have := h.2.2
  unfold pgs pagesF
  split <;> omega
theorem pgs_pos (l : List Ch) : 1 ≤ pgs l := by unfold pgs pagesF; split <;> omega
section
variable {st : St} {l : List Ch}
theorem appS_fit (h : fitsS st l) : appS st l = { st with last := st.last ++ [l], M := takesF st.M l st.num st.last.length } := by unfold appS; rw [if_pos h]
theorem appS_new (h : ¬ fitsS st l) : appS st l = { st with init := st.init ++ [st.last], last := [l], M := takesF st.M l (st.num + 1) 0 } := by unfold appS; rw [if_neg h]
theorem appS_D : (appS st l).D = st.D := by unfold appS; split <;> rfl
/-- Where a record goes. -/
def putSeg (st : St) (l : List Ch) : Nat := if fitsS st l then st.num else st.num + 1
def putPos (st : St) (l : List Ch) : Nat := if fitsS st l then st.last.length else 0
theorem appS_M : (appS st l).M = takesF st.M l (putSeg st l) (putPos st l) := by unfold appS putSeg putPos; split <;> rfl
theorem appS_rec {s a : Nat} {m : List Ch} (h : RecAt st s a m) : RecAt (appS st l) s a m := by
  obtain ⟨j, rs, h1, h2, h3⟩ := h
  unfold St.segs at h1
  by_cases hf : fitsS st l
  · rw [appS_fit hf]
    by_cases hj : j < st.init.length
    · rw [List.getElem?_append_left hj] at h1
      exact ⟨j, rs, by unfold St.segs; rw [List.getElem?_append_left hj]; exact h1, h2, h3⟩
    · rw [List.getElem?_append_right (by omega)] at h1
      obtain ⟨i, hi⟩ : ∃ i, j - st.init.length = i := ⟨_, rfl⟩
      rw [hi] at h1
      cases i with
      | succ i => simp at h1
      | zero =>
        have : st.last = rs := by simpa using h1
        subst this
        refine ⟨j, st.last ++ [l], ?_, h2, ?_⟩
        · unfold St.segs; rw [List.getElem?_append_right (by simp; omega)]; simp [hi]
        · rw [List.getElem?_append_left (List.getElem?_eq_some_iff.1 h3).1]; exact h3
  · rw [appS_new hf]
    have hlt := (List.getElem?_eq_some_iff.1 h1).1
    refine ⟨j, rs, ?_, h2, h3⟩
    show ((st.init ++ [st.last]) ++ [[l]])[j]? = some rs
    rw [List.getElem?_append_left hlt]; exact h1
theorem appS_put : RecAt (appS st l) (putSeg st l) (putPos st l) l := by
  unfold putSeg putPos
  by_cases hf : fitsS st l
  · rw [appS_fit hf, if_pos hf, if_pos hf]
    exact ⟨st.init.length, st.last ++ [l], by unfold St.segs; simp, rfl, by simp⟩
  · rw [appS_new hf, if_neg hf, if_neg hf]
    exact ⟨st.init.length + 1, [l], by unfold St.segs; simp, by unfold St.num; simp; omega, by simp⟩
end
theorem replay_app {st : St} {l : List Ch} (h : ReplayS st) : ReplayS (appS st l) := by
  by_cases hf : fitsS st l
  · rw [appS_fit hf]
    show repS (st.D + 1) (st.init ++ [st.last ++ [l]]) [] = takesF st.M l st.num st.last.length
    rw [repS_snoc, repR_snoc, Nat.zero_add]
    have h' : repS (st.D + 1) (st.init ++ [st.last]) [] = st.M := h
    rw [repS_snoc] at h'
    rw [h', show st.D + 1 + st.init.length = st.num by unfold St.num; omega]
  · rw [appS_new hf]
    show repS (st.D + 1) ((st.init ++ [st.last]) ++ [[l]]) [] = takesF st.M l (st.num + 1) 0
    rw [repS_snoc]
    have h' : repS (st.D + 1) (st.init ++ [st.last]) [] = st.M := h
    rw [h', show st.D + 1 + (st.init ++ [st.last]).length = st.num + 1 by unfold St.num; simp; omega]
    rfl
/-- An append leaves a store one. -/
theorem appS_inv {n : Nat} {st : St} {l : List Ch} (h : InvS n st) (hl : FormC l) (hroom : ¬ fitsS st l → st.init.length + 2 ≤ n) : InvS n (appS st l) := by
  have h7 := pgs_le7 hl
  refine ⟨?_, ?_, ?_, ?_, replay_app h.rep⟩
  · by_cases hf : fitsS st l
    · rw [appS_fit hf]; exact h.few
    · rw [appS_new hf]; have := hroom hf; simp; omega
  · intro rs hrs
    have hlast := h.recs st.last (by simp [St.segs])
    by_cases hf : fitsS st l
    · rw [appS_fit hf] at hrs
      simp only [St.segs, List.mem_append, List.mem_singleton] at hrs
      rcases hrs with hrs | rfl
      · exact h.recs rs (by simp [St.segs, hrs])
      · refine ⟨by rw [usedS_snoc]; exact hf, fun m hm => ?_⟩
        rcases List.mem_append.1 hm with hm | hm
        · exact hlast.2 m hm
        · have : m = l := by simpa using hm
          rw [this]; exact hl
    · rw [appS_new hf] at hrs
      simp only [St.segs, List.mem_append, List.mem_singleton] at hrs
      rcases hrs with (hrs | rfl) | rfl
      · exact h.recs rs (by simp [St.segs, hrs])
      · exact hlast
      · refine ⟨by simp only [usedS]; omega, fun m hm => ?_⟩
        have : m = l := by simpa using hm
        rw [this]; exact hl
  · rw [appS_M]; exact takes_sorted _ _ _ h.sorted
  · intro k o hk
    rw [appS_M] at hk
    by_cases hc : ∃ c ∈ l, c.key = k
    · obtain ⟨c, hc, rfl⟩ := hc
      rw [takes_find _ _ l hl.1 c hc h.sorted] at hk
      split at hk
      · cases hk
      · next hd =>
        cases hk
        refine ⟨l, appS_put, ?_⟩
        have e : (⟨c.key, c.val, false⟩ : Ch) = c := by cases c; simp_all
        rw [e]; exact hc
    · rw [takes_other _ _ l k (fun c hcm he => hc ⟨c, hcm, he⟩) h.sorted] at hk
      obtain ⟨m, hm, hin⟩ := h.placed k o hk
      exact ⟨m, appS_rec hm, hin⟩
/-- What stands there behind an append of what stands there. -/
theorem appS_same {n : Nat} {st : St} {l : List Ch} (h : InvS n st) (hl : FormC l) (hk : ∀ c ∈ l, c.drop = false ∧ valM st.M c.key = some c.val) : ∀ k, valM (appS st l).M k = valM st.M k := by
  intro k
  rw [appS_M]
  by_cases hc : ∃ c ∈ l, c.key = k
  · obtain ⟨c, hc, rfl⟩ := hc
    unfold valM
    rw [takes_find _ _ l hl.1 c hc h.sorted, (hk c hc).1]
    exact (hk c hc).2.symm
  · unfold valM
    rw [takes_other _ _ l k (fun c hcm he => hc ⟨c, hcm, he⟩) h.sorted]
/-! ### Cleaning, pure -/
def liveW (s : Nat) (o : Ob) : Nat := if s ≤ o.seg then wF o.val else 0
/-- m fresh segments hold at least U pages of what stands there. -/
structure Fresh8 (st : St) (m U : Nat) : Prop where
  few : m ≤ st.init.length
  live : U ≤ sumA (liveW (st.num + 1 - m)) st.M
  none : m = 0 → U = 0
  pair : 1 ≤ m → 8 * (m - 1) + usedS st.last ≤ 2 * U
theorem takes_live (s seg pos : Nat) (l : List Ch) (hr : RisesC l) : ∀ {M : OM}, SortedA M → (∀ c ∈ l, c.drop = false ∧ ∃ o, findA M c.key = some o ∧ o.seg < s) → sumA (liveW s) (takesF M l seg pos) = sumA (liveW s) M + (if s ≤ seg then sumC l else 0) := by
  induction l with
  | nil => intro M _ _; simp [takesF, sumC]
  | cons c l ih =>
    intro M h hall
    obtain ⟨h1, h2⟩ := List.pairwise_cons.1 hr
    obtain ⟨hd, o, ho, hlt⟩ := hall c (by simp)
    show sumA _ (takesF (take1 seg pos M c) l seg pos) = _
    rw [ih h2 (take1_sorted h _ _ _) (fun d hdm => by
      obtain ⟨q1, o', q2, q3⟩ := hall d (by simp [hdm])
      refine ⟨q1, o', ?_, q3⟩
      rw [take1_find h, if_neg (fun e => by have := h1 d hdm; omega)]
      exact q2)]
    have := take1_sum (liveW s) h seg pos c
    rw [ho, hd] at this
    have e0 : liveW s o = 0 := by unfold liveW; rw [if_neg (by omega)]
    simp only [Option.map_some, Option.getD_some, e0, Nat.add_zero, Bool.false_eq_true, if_false] at this
    rw [this]
    have e1 : liveW s ⟨c.val, seg, pos⟩ = if s ≤ seg then chW c else 0 := by unfold liveW chW; rw [hd]; rfl
    rw [e1]
    simp only [sumC]
    split <;> omega
theorem live_le (s : Nat) (M : OM) : sumA (liveW s) M ≤ sumA wO M := sum_le (fun o => by unfold liveW wO; split <;> omega) M
theorem rises_same {l : List Ch} (hr : RisesC l) {c d : Ch} (hc : c ∈ l) (hd : d ∈ l) (h : c.key = d.key) : c = d := by
  induction l with
  | nil => cases hc
  | cons x l ih =>
    obtain ⟨h1, h2⟩ := List.pairwise_cons.1 hr
    rcases List.mem_cons.1 hc with e1 | hc1
    · rcases List.mem_cons.1 hd with e2 | hd1
      · rw [e1, e2]
      · have := h1 d hd1
        rw [e1] at h
        omega
    · rcases List.mem_cons.1 hd with e2 | hd1
      · have := h1 c hc1
        rw [e2] at h
        omega
      · exact ih h2 hc1 hd1
theorem recAt_one {st : St} {rs0 : List (List Ch)} {t : List (List (List Ch))} (h : st.init = rs0 :: t) {a : Nat} {l : List Ch} (hr : RecAt st (st.D + 1) a l) : rs0[a]? = some l := by
  obtain ⟨j, rs, h1, h2, h3⟩ := hr
  have : j = 0 := by omega
  subst this
  unfold St.segs at h1
  rw [h] at h1
  have : rs0 = rs := by simpa using h1
  rw [this]; exact h3
/-- A round of a cleaning: what is to come are the records b. -/
structure CI (n : Nat) (st0 : St) (rs0 : List (List Ch)) (m0 : Nat) (i : Nat) (b : List (List Ch)) (st : St) (m U : Nat) : Prop where
  inv : InvS n st
  d : st.D = st0.D
  head : ∃ t, st.init = rs0 :: t
  way : (st.init.length = st0.init.length ∧ m = m0) ∨ (st.init.length = st0.init.length + 1 ∧ m = m0 + 1 ∧ usedS st.last + usedS b ≤ 7)
  same : ∀ k, valM st.M k = valM st0.M k
  behind : ∀ k o, findA st.M k = some o → o.seg = st.D + 1 → i ≤ o.pos
  fresh : Fresh8 st m U
theorem usedS_append (a b : List (List Ch)) : usedS (a ++ b) = usedS a + usedS b := by
  induction a with
  | nil => simp [usedS]
  | cons x a ih => simp only [List.cons_append, usedS, ih]; omega
theorem keep_spec {n : Nat} {st0 : St} {rs0 : List (List Ch)} {m0 i : Nat} {r : List Ch} {b : List (List Ch)} {st : St} {m U : Nat} (h : CI n st0 rs0 m0 i (r :: b) st m U) (hi : rs0[i]? = some r) :
    (∀ c ∈ r.filter (keepC st.M (st.D + 1) i), c ∈ r ∧ c.drop = false ∧ valM st.M c.key = some c.val ∧ ∃ o, findA st.M c.key = some o ∧ o.seg = st.D + 1) ∧
    (∀ k o, findA st.M k = some o → o.seg = st.D + 1 → o.pos = i → ∃ c ∈ r.filter (keepC st.M (st.D + 1) i), c.key = k) := by
  obtain ⟨t, ht⟩ := h.head
  have hrs := h.inv.recs rs0 (by simp [St.segs, ht])
  have hf : FormC r := hrs.2 r (List.mem_of_getElem? hi)
  constructor
  · intro c hc
    obtain ⟨hcr, hk⟩ := List.mem_filter.1 hc
    unfold keepC at hk
    cases ho : findA st.M c.key with
    | none => rw [ho] at hk; simp at hk
    | some o =>
      rw [ho] at hk
      simp only [Bool.and_eq_true, Bool.not_eq_true', beq_iff_eq] at hk
      obtain ⟨hd, hs, hp⟩ := hk
      obtain ⟨l, hl, hin⟩ := h.inv.placed _ _ ho
      rw [hs, hp] at hl
      have := recAt_one ht hl
      rw [hi] at this
      cases this
      have he := rises_same hf.1 hcr hin rfl
      refine ⟨hcr, hd, ?_, o, rfl, hs⟩
      unfold valM
      rw [ho]
      show some o.val = some c.val
      rw [he]
  · intro k o ho hs hp
    obtain ⟨l, hl, hin⟩ := h.inv.placed _ _ ho
    rw [hs, hp] at hl
    have := recAt_one ht hl
    rw [hi] at this
    cases this
    refine ⟨_, List.mem_filter.2 ⟨hin, ?_⟩, rfl⟩
    unfold keepC
    simp only [ho]
    simp [hs, hp]
/-- One record. -/
theorem clean_step {n : Nat} {st0 : St} {rs0 : List (List Ch)} {m0 i : Nat} {r : List Ch} {b : List (List Ch)} {st : St} {m U : Nat} (h0 : st0.init.length + 2 ≤ n) (h : CI n st0 rs0 m0 i (r :: b) st m U) (hi : rs0[i]? = some r) (hu : usedS (r :: b) ≤ 7) (hm : m ≤ st.init.length) :
    (r.filter (keepC st.M (st.D + 1) i) ≠ [] → FormC (r.filter (keepC st.M (st.D + 1) i)) ∧ (¬ fitsS st (r.filter (keepC st.M (st.D + 1) i)) → st.init.length + 2 ≤ n)) ∧
    ∃ m' U', CI n st0 rs0 m0 (i + 1) b (if r.filter (keepC st.M (st.D + 1) i) = [] then st else appS st (r.filter (keepC st.M (st.D + 1) i))) m' U' := by
  obtain ⟨hk1, hk2⟩ := keep_spec h hi
  obtain ⟨t, ht⟩ := h.head
  have hrs := h.inv.recs rs0 (by simp [St.segs, ht])
  have hf : FormC r := hrs.2 r (List.mem_of_getElem? hi)
  obtain ⟨k, hkd⟩ : ∃ k, r.filter (keepC st.M (st.D + 1) i) = k := ⟨_, rfl⟩
  have hfk : FormC k := by rw [← hkd]; exact formC_sub List.filter_sublist hf
  have hpk : pgs k ≤ pgs r := by rw [← hkd]; exact pages_mono (recF_sub List.filter_sublist)
  rw [hkd] at hk1 hk2 ⊢
  have hur : pgs r + usedS b ≤ 7 := hu
  have hroom : ¬ fitsS st k → st.init.length + 2 ≤ n := by
    intro hnf
    rcases h.way with ⟨w1, _⟩ | ⟨_, _, w3⟩
    · omega
    · exfalso
      apply hnf
      unfold fitsS
      have : usedS (r :: b) = pgs r + usedS b := rfl
      omega
  refine ⟨fun _ => ⟨hfk, hroom⟩, ?_⟩
  by_cases hke : k = []
  · rw [if_pos hke]
    refine ⟨m, U, h.inv, h.d, h.head, ?_, h.same, ?_, h.fresh⟩
    · rcases h.way with w | ⟨w1, w2, w3⟩
      · exact .inl w
      · refine .inr ⟨w1, w2, ?_⟩
        have : usedS (r :: b) = pgs r + usedS b := rfl
        omega
    · intro kk o ho hs
      have h1 := h.behind kk o ho hs
      apply Decidable.byContradiction
      intro hlt
      obtain ⟨c, hc, _⟩ := hk2 kk o ho hs (by omega)
      rw [hke] at hc
      cases hc
  · rw [if_neg hke]
    have hnum : st.num = st.D + st.init.length + 1 := rfl
    have hpos : 1 ≤ st.init.length := by rw [ht]; simp
    have hinv := appS_inv h.inv hfk hroom
    have hsame := appS_same h.inv hfk (fun c hc => ⟨(hk1 c hc).2.1, (hk1 c hc).2.2.1⟩)
    have hseg : st.D + 1 < putSeg st k := by unfold putSeg; split <;> omega
    have hbehind : ∀ kk o, findA (appS st k).M kk = some o → o.seg = (appS st k).D + 1 → i + 1 ≤ o.pos := by
      intro kk o ho hs
      rw [appS_D] at hs
      rw [appS_M] at ho
      by_cases hc : ∃ c ∈ k, c.key = kk
      · obtain ⟨c, hc, rfl⟩ := hc
        rw [takes_find _ _ k hfk.1 c hc h.inv.sorted, (hk1 c hc).2.1] at ho
        cases ho
        simp only at hs
        omega
      · rw [takes_other _ _ k kk (fun c hcm he => hc ⟨c, hcm, he⟩) h.inv.sorted] at ho
        have h1 := h.behind kk o ho hs
        apply Decidable.byContradiction
        intro hlt
        exact hc (hk2 kk o ho hs (by omega))
    have hlive : ∀ s, st.D + 1 < s → sumA (liveW s) (appS st k).M = sumA (liveW s) st.M + (if s ≤ putSeg st k then sumC k else 0) := by
      intro s hs
      rw [appS_M]
      exact takes_live s _ _ k hfk.1 h.inv.sorted (fun c hc => ⟨(hk1 c hc).2.1, by obtain ⟨o, q1, q2⟩ := (hk1 c hc).2.2.2; exact ⟨o, q1, by omega⟩⟩)
    have hw := pgs_le k (fun c hc => (hk1 c hc).2.1) hke
    have hfr := h.fresh
    by_cases hfit : fitsS st k
    · have e := appS_fit hfit
      have hput : putSeg st k = st.num := by unfold putSeg; rw [if_pos hfit]
      have hlast : usedS (appS st k).last = usedS st.last + pgs k := by rw [e]; exact usedS_snoc _ _
      have hnum' : (appS st k).num = st.num := by rw [e]; rfl
      refine ⟨m, if m = 0 then 0 else U + pgs k, hinv, appS_D.trans h.d, ⟨t, by rw [e]; exact ht⟩, ?_, fun kk => (hsame kk).trans (h.same kk), hbehind, ?_⟩
      · rcases h.way with ⟨w1, w2⟩ | ⟨w1, w2, w3⟩
        · exact .inl ⟨by rw [e]; exact w1, w2⟩
        · refine .inr ⟨by rw [e]; exact w1, w2, ?_⟩
          rw [hlast]
          have : usedS (r :: b) = pgs r + usedS b := rfl
          omega
      · by_cases hm0 : m = 0
        · rw [if_pos hm0]
          exact ⟨by rw [e]; exact hm, by omega, fun _ => rfl, fun hh => by omega⟩
        · rw [if_neg hm0]
          refine ⟨by rw [e]; exact hm, ?_, fun hh => absurd hh hm0, fun hh => ?_⟩
          · rw [hnum', hlive _ (by omega), if_pos (by rw [hput]; omega)]
            have := hfr.live
            omega
          · rw [hlast]
            have := hfr.pair hh
            omega
    · have e := appS_new hfit
      have hput : putSeg st k = st.num + 1 := by unfold putSeg; rw [if_neg hfit]
      have hlast : usedS (appS st k).last = pgs k := by rw [e]; rfl
      have hnum' : (appS st k).num = st.num + 1 := by rw [e]; unfold St.num; simp; omega
      have hil : (appS st k).init.length = st.init.length + 1 := by rw [e]; simp
      have hnf : 7 < usedS st.last + pgs k := by unfold fitsS at hfit; omega
      refine ⟨m + 1, U + pgs k, hinv, appS_D.trans h.d, ⟨t ++ [st.last], by rw [e]; show st.init ++ _ = _; rw [ht]; rfl⟩, ?_, fun kk => (hsame kk).trans (h.same kk), hbehind, ?_⟩
      · rcases h.way with ⟨w1, w2⟩ | ⟨w1, w2, w3⟩
        · exact .inr ⟨by omega, by omega, by rw [hlast]; omega⟩
        · exfalso
          have : usedS (r :: b) = pgs r + usedS b := rfl
          omega
      · refine ⟨by omega, ?_, fun hh => by omega, fun _ => ?_⟩
        · rw [hnum', hlive _ (by omega), if_pos (by rw [hput]; omega)]
          have := hfr.live
          rw [show st.num + 1 + 1 - (m + 1) = st.num + 1 - m by omega]
          omega
        · rw [hlast]
          by_cases hm0 : m = 0
          · have := hfr.none hm0
            subst hm0
            omega
          · have := hfr.pair (by omega)
            omega
/-- The quota bounds what is fresh. -/
theorem fresh_few {n : Nat} {st : St} {m U : Nat} (h : Fresh8 st m U) (hn : 8 ≤ n) (hw : sumA wO st.M ≤ 7 * (n - 4) / 2) : m ≤ n - 4 := by
  by_cases hm : m = 0
  · omega
  · have h1 := h.pair (by omega)
    have h2 := h.live
    have h3 := live_le (st.num + 1 - m) st.M
    omega
theorem val_map {M N : OM} (h1 : SortedA M) (h2 : SortedA N) (h : ∀ k, valM M k = valM N k) : mapA Ob.val M = mapA Ob.val N :=
  ext_sorted (sorted_map _ h1) (sorted_map _ h2) (fun k => by rw [find_map, find_map]; exact h k)
theorem weight_same {M N : OM} (h1 : SortedA M) (h2 : SortedA N) (h : ∀ k, valM M k = valM N k) : sumA wO M = sumA wO N := by
  have e1 := sum_map Ob.val wF M
  have e2 := sum_map Ob.val wF N
  rw [val_map h1 h2 h] at e1
  exact e1.symm.trans e2
/-- Before a cleaning. -/
structure CleanPre (n : Nat) (st : St) (m U : Nat) : Prop where
  inv : InvS n st
  eight : 8 ≤ n
  free : st.init.length + 2 = n
  fresh : Fresh8 st m U
  quota : sumA wO st.M ≤ 7 * (n - 4) / 2
/-- The state behind i records. -/
def cleanI (st : St) (rs : List (List Ch)) (i : Nat) : St := cleanR (st.D + 1) (rs.take i) 0 st
theorem cleanR_append (num : Nat) (a b : List (List Ch)) : ∀ (i : Nat) (st : St), cleanR num (a ++ b) i st = cleanR num b (i + a.length) (cleanR num a i st) := by
  induction a with
  | nil => intro i st; rfl
  | cons r a ih =>
    intro i st
    show cleanR num (a ++ b) (i + 1) _ = _
    rw [ih]
    show cleanR num b (i + 1 + a.length) _ = cleanR num b (i + (a.length + 1)) _
    rw [show i + 1 + a.length = i + (a.length + 1) by omega]
    rfl
theorem cleanI_succ (st : St) (rs : List (List Ch)) (i : Nat) (r : List Ch) (h : rs[i]? = some r) :
    cleanI st rs (i + 1) = (if r.filter (keepC (cleanI st rs i).M (st.D + 1) i) = [] then cleanI st rs i else appS (cleanI st rs i) (r.filter (keepC (cleanI st rs i).M (st.D + 1) i))) := by
  have hlt := (List.getElem?_eq_some_iff.1 h).1
  have e : rs.take (i + 1) = rs.take i ++ [r] := by rw [List.take_add_one, h]; rfl
  unfold cleanI
  rw [e, cleanR_append, List.length_take, Nat.min_eq_left (by omega), Nat.zero_add]
  rfl
theorem clean_at {n : Nat} {st : St} {m U : Nat} (h : CleanPre n st m U) {rs0 : List (List Ch)} {t : List (List (List Ch))} (ht : st.init = rs0 :: t) : ∀ i, i ≤ rs0.length → ∃ m' U', CI n st rs0 m i (rs0.drop i) (cleanI st rs0 i) m' U' := by
  intro i
  induction i with
  | zero =>
    intro _
    exact ⟨m, U, ⟨h.inv, rfl, ⟨t, ht⟩, .inl ⟨rfl, rfl⟩, fun _ => rfl, fun _ _ _ _ => Nat.zero_le _, h.fresh⟩⟩
  | succ i ih =>
    intro hi
    obtain ⟨m1, U1, hc⟩ := ih (by omega)
    have hr : rs0[i]? = some rs0[i] := List.getElem?_eq_getElem (by omega)
    have hd : rs0.drop i = rs0[i] :: rs0.drop (i + 1) := List.drop_eq_getElem_cons (by omega)
    rw [hd] at hc
    have hu0 := (h.inv.recs rs0 (by simp [St.segs, ht])).1
    have hu : usedS (rs0[i] :: rs0.drop (i + 1)) ≤ 7 := by
      rw [← hd]
      have := usedS_append (rs0.take i) (rs0.drop i)
      rw [List.take_append_drop] at this
      omega
    have hcd := hc.d
    obtain ⟨_, m2, U2, hs⟩ := clean_step (Nat.le_of_eq h.free) hc hr hu hc.fresh.few
    rw [hcd] at hs
    rw [cleanI_succ st rs0 i _ hr]
    exact ⟨m2, U2, hs⟩
/-- Each record of a cleaning may be appended. -/
theorem clean_may {n : Nat} {st : St} {m U : Nat} (h : CleanPre n st m U) {rs0 : List (List Ch)} {t : List (List (List Ch))} (ht : st.init = rs0 :: t) (i : Nat) (r : List Ch) (hr : rs0[i]? = some r) :
    InvS n (cleanI st rs0 i) ∧ (cleanI st rs0 i).D = st.D ∧ (∃ t', (cleanI st rs0 i).init = rs0 :: t') ∧ (r.filter (keepC (cleanI st rs0 i).M (st.D + 1) i) ≠ [] → FormC (r.filter (keepC (cleanI st rs0 i).M (st.D + 1) i)) ∧ (¬ fitsS (cleanI st rs0 i) (r.filter (keepC (cleanI st rs0 i).M (st.D + 1) i)) → (cleanI st rs0 i).init.length + 2 ≤ n)) := by
  have hlt := (List.getElem?_eq_some_iff.1 hr).1
  obtain ⟨m1, U1, hc⟩ := clean_at h ht i (by omega)
  have hd : rs0.drop i = rs0[i] :: rs0.drop (i + 1) := List.drop_eq_getElem_cons (by omega)
  have hr2 : rs0[i] = r := (List.getElem?_eq_some_iff.1 hr).2
  rw [hd, hr2] at hc
  have hu0 := (h.inv.recs rs0 (by simp [St.segs, ht])).1
  have hu : usedS (r :: rs0.drop (i + 1)) ≤ 7 := by
    rw [← hr2, ← hd]
    have := usedS_append (rs0.take i) (rs0.drop i)
    rw [List.take_append_drop] at this
    omega
  have hcd := hc.d
  have hs := (clean_step (Nat.le_of_eq h.free) hc hr hu hc.fresh.few).1
  rw [hcd] at hs
  exact ⟨hc.inv, hcd, hc.head, hs⟩
/-- Alike but for keys whose place is segment s. -/
def LikeBut (s : Nat) (M N : OM) : Prop := ∀ k, findA M k = findA N k ∨ (findA N k = none ∧ ∃ o, findA M k = some o ∧ o.seg = s)
theorem like_takes {s num a : Nat} {M N : OM} (h1 : SortedA M) (h2 : SortedA N) (h : LikeBut s M N) (l : List Ch) (hr : RisesC l) : LikeBut s (takesF M l num a) (takesF N l num a) := by
  intro k
  by_cases hk : ∃ c ∈ l, c.key = k
  · obtain ⟨c, hc, rfl⟩ := hk
    left
    rw [takes_find num a l hr c hc h1, takes_find num a l hr c hc h2]
  · have hk' : ∀ c ∈ l, c.key ≠ k := fun c hc e => hk ⟨c, hc, e⟩
    rw [takes_other num a l k hk' h1, takes_other num a l k hk' h2]
    exact h k
theorem repR_sorted (num : Nat) : ∀ (rs : List (List Ch)) (i : Nat) (M : OM), SortedA M → SortedA (repR num rs i M)
  | [], _, _, h => h
  | l :: rs, i, M, h => repR_sorted num rs (i + 1) _ (takes_sorted _ _ _ h)
theorem repS_sorted : ∀ (t : List (List (List Ch))) (num : Nat) (M : OM), SortedA M → SortedA (repS num t M)
  | [], _, _, h => h
  | rs :: t, num, M, h => repS_sorted t (num + 1) _ (repR_sorted num rs 0 M h)
theorem like_repR {s num : Nat} : ∀ (rs : List (List Ch)) (i : Nat) (M N : OM), SortedA M → SortedA N → LikeBut s M N → (∀ l ∈ rs, RisesC l) → LikeBut s (repR num rs i M) (repR num rs i N)
  | [], _, _, _, _, _, h, _ => h
  | l :: rs, i, M, N, h1, h2, h, hr => like_repR rs (i + 1) _ _ (takes_sorted _ _ _ h1) (takes_sorted _ _ _ h2) (like_takes h1 h2 h l (hr l List.mem_cons_self)) (fun l' hl => hr l' (List.mem_cons_of_mem _ hl))
theorem like_repS {s : Nat} : ∀ (t : List (List (List Ch))) (num : Nat) (M N : OM), SortedA M → SortedA N → LikeBut s M N → (∀ rs ∈ t, ∀ l ∈ rs, RisesC l) → LikeBut s (repS num t M) (repS num t N)
  | [], _, _, _, _, _, h, _ => h
  | rs :: t, num, M, N, h1, h2, h, hr => like_repS t (num + 1) _ _ (repR_sorted _ _ _ _ h1) (repR_sorted _ _ _ _ h2) (like_repR rs 0 M N h1 h2 h (hr rs List.mem_cons_self)) (fun rs' hl => hr rs' (List.mem_cons_of_mem _ hl))
/-- What one segment's records tell, all told by it. -/
theorem repR_seg {num : Nat} : ∀ (rs : List (List Ch)) (i : Nat) (M : OM), SortedA M → (∀ k o, findA M k = some o → o.seg = num) → (∀ l ∈ rs, RisesC l) → ∀ k o, findA (repR num rs i M) k = some o → o.seg = num
  | [], _, _, _, h, _ => h
  | l :: rs, i, M, hs, h, hr => repR_seg rs (i + 1) _ (takes_sorted _ _ _ hs) (fun k o ho => by
      by_cases hk : ∃ c ∈ l, c.key = k
      · obtain ⟨c, hc, rfl⟩ := hk
        rw [takes_find num i l (hr l List.mem_cons_self) c hc hs] at ho
        split at ho
        · cases ho
        · cases ho; rfl
      · rw [takes_other num i l k (fun c hc e => hk ⟨c, hc, e⟩) hs] at ho
        exact h k o ho) (fun l' hl => hr l' (List.mem_cons_of_mem _ hl))
/-- The oldest segment goes: no key's place is there. -/
theorem replay_drop {rs : List (List Ch)} {t : List (List (List Ch))} {num : Nat} {M : OM} (hr : ∀ r ∈ rs :: t, ∀ l ∈ r, RisesC l) (h : repS num (rs :: t) [] = M) (hM : ∀ k o, findA M k = some o → o.seg ≠ num) : repS (num + 1) t [] = M := by
  have hs0 : SortedA ([] : OM) := List.Pairwise.nil
  have hseg := repR_seg rs 0 [] hs0 (num := num) (fun k o ho => by cases ho) (hr rs List.mem_cons_self)
  have hlike : LikeBut num (repR num rs 0 []) [] := fun k => by
    cases ho : findA (repR num rs 0 []) k with
    | none => exact .inl rfl
    | some o => exact .inr ⟨rfl, o, rfl, hseg k o ho⟩
  have hl := like_repS t (num + 1) _ _ (repR_sorted _ _ _ _ hs0) hs0 hlike (fun r hm => hr r (List.mem_cons_of_mem _ hm))
  have h' : repS (num + 1) t (repR num rs 0 []) = M := h
  refine ext_sorted (repS_sorted _ _ _ hs0) (by rw [← h']; exact repS_sorted _ _ _ (repR_sorted _ _ _ _ hs0)) (fun k => ?_)
  have hk := hl k
  rw [h'] at hk
  rcases hk with hk | ⟨_, o, h1, h2⟩
  · exact hk.symm
  · exact absurd h2 (hM k o h1)
/-- A cleaning. -/
theorem clean_all {n : Nat} {st : St} {m U : Nat} (h : CleanPre n st m U) {rs0 : List (List Ch)} {t : List (List (List Ch))} (ht : st.init = rs0 :: t) :
    InvS n (cleanS st) ∧ (cleanS st).D = st.D + 1 ∧ (cleanS st).init.length + 2 ≤ n ∧ (∀ k, valM (cleanS st).M k = valM st.M k) ∧
    ((cleanS st).init.length + 3 ≤ n ∨ ∃ U', CleanPre n (cleanS st) (m + 1) U' ∧ m + 1 ≤ n - 4) := by
  obtain ⟨m1, U1, hc⟩ := clean_at h ht rs0.length (Nat.le_refl _)
  have e : cleanS st = { (cleanI st rs0 rs0.length) with D := st.D + 1, init := (cleanI st rs0 rs0.length).init.tail } := by
    unfold cleanS cleanI
    rw [ht, List.take_length]
    rfl
  obtain ⟨s1, hs1⟩ : ∃ s1, cleanI st rs0 rs0.length = s1 := ⟨_, rfl⟩
  rw [hs1] at hc e
  obtain ⟨t', ht'⟩ := hc.head
  have hil : s1.init.length = t'.length + 1 := by rw [ht']; rfl
  have hd := hc.d
  have hinv : InvS n (cleanS st) := by
    rw [e]
    refine ⟨?_, ?_, hc.inv.sorted, ?_, ?_⟩
    · have := hc.inv.few
      simp; omega
    · intro rs hrs
      apply hc.inv.recs
      simp only [St.segs, List.mem_append, ht'] at hrs ⊢
      rcases hrs with hrs | hrs
      · exact .inl (List.mem_cons_of_mem _ hrs)
      · exact .inr hrs
    · intro k o ho
      obtain ⟨l, ⟨j, rs, h1, h2, h3⟩, hin⟩ := hc.inv.placed k o ho
      cases j with
      | zero =>
        exfalso
        have hb := hc.behind k o ho (by omega)
        unfold St.segs at h1
        rw [ht'] at h1
        have : rs0 = rs := by simpa using h1
        rw [← this] at h3
        have := (List.getElem?_eq_some_iff.1 h3).1
        omega
      | succ j =>
        refine ⟨l, ⟨j, rs, ?_, ?_, h3⟩, hin⟩
        · unfold St.segs at h1 ⊢
          rw [ht'] at h1
          show (s1.init.tail ++ [s1.last])[j]? = some rs
          rw [ht']
          simpa using h1
        · show o.seg = st.D + 1 + j + 1
          omega
    · have hsegs : s1.segs = rs0 :: (t' ++ [s1.last]) := by unfold St.segs; rw [ht']; rfl
      have hr1 := hc.inv.rep
      unfold ReplayS at hr1 ⊢
      rw [hsegs, hd] at hr1
      show repS (st.D + 1 + 1) (s1.init.tail ++ [s1.last]) [] = s1.M
      rw [ht']
      refine replay_drop (rs := rs0) (fun r hr l hl => ?_) hr1 (fun k o ho hseg => ?_)
      · exact ((hc.inv.recs r (by rw [hsegs]; exact hr)).2 l hl).1
      · obtain ⟨l, ⟨j, rs, h1, h2, h3⟩, hin⟩ := hc.inv.placed k o ho
        have hj : j = 0 := by omega
        subst hj
        have hb := hc.behind k o ho (by omega)
        rw [hsegs] at h1
        have : rs0 = rs := by simpa using h1
        rw [← this] at h3
        have := (List.getElem?_eq_some_iff.1 h3).1
        omega
  have hval : ∀ k, valM (cleanS st).M k = valM st.M k := by rw [e]; exact hc.same
  have hw : sumA wO (cleanS st).M ≤ 7 * (n - 4) / 2 := by rw [weight_same hinv.sorted h.inv.sorted hval]; exact h.quota
  have hlen : (cleanS st).init.length = t'.length := by rw [e]; show s1.init.tail.length = _; rw [ht']; rfl
  have hfree := h.free
  have hw1 : sumA wO s1.M ≤ 7 * (n - 4) / 2 := by rw [weight_same hc.inv.sorted h.inv.sorted hc.same]; exact h.quota
  have hm4 := fresh_few hc.fresh h.eight hw1
  have h8 := h.eight
  refine ⟨hinv, by rw [e], ?_, hval, ?_⟩
  · rcases hc.way with ⟨w1, _⟩ | ⟨w1, _⟩ <;> omega
  · rcases hc.way with ⟨w1, _⟩ | ⟨w1, w2, _⟩
    · left; omega
    · right
      subst w2
      refine ⟨U1, ⟨hinv, h.eight, by omega, ⟨by omega, ?_, hc.fresh.none, ?_⟩, hw⟩, hm4⟩
      · have := hc.fresh.live
        have e1 : (cleanS st).num = s1.num := by
          unfold St.num
          rw [hlen, e]
          show st.D + 1 + _ + 1 = s1.D + s1.init.length + 1
          omega
        rw [e1, e]
        exact this
      · rw [e]; exact hc.fresh.pair
/-! ### A map in memory, by a list of keys -/
open Go.Maps (Keyed)
abbrev KL (k : Int) : Lit := .int .i64 k
def I64 (k : Int) : Prop := -9223372036854775808 ≤ k ∧ k ≤ 9223372036854775807
theorem kl_wf {k : Int} (h : I64 k) : (KL k).wf = true := by
  obtain ⟨h1, h2⟩ := h
  have e1 : IntKind.i64.min = -9223372036854775808 := by decide
  have e2 : IntKind.i64.max = 9223372036854775807 := by decide
  simp [KL, Lit.wf]
  omega
theorem int_law : Keyed Tryz.prog 3 := Go.Maps.int_keyed Tryz.underlying3
theorem kl_of {k : Int} (h : I64 k) : keyOf Tryz.prog 3 (I k) = some (KL k) := Go.Maps.keyOf_int_mk Tryz.underlying3 (kl_wf h)
section
variable {α : Type}
structure AMapAt (R : Value → Option (DataW Unit × List MemPlace)) (enc : α → DataW Unit) (w : World) (b : Nat) (M : List (Int × α)) : Prop where
  own : ∃ D, w.ownsMap Tryz.prog 3 R b M.length D ∧ Maps.size D = M.length ∧ (∀ k, Maps.has D (KL k) = (findA M k).isSome) ∧ (∀ k o, findA M k = some o → ∀ z, D.atKey (KL k) z = enc o)
  srt : SortedA M
variable {R : Value → Option (DataW Unit × List MemPlace)} {enc : α → DataW Unit} {w : World} {b : Nat} {M : List (Int × α)}
theorem AMapAt.lt (h : AMapAt R enc w b M) : b < w.heap.size := by obtain ⟨D, h1, _⟩ := h.own; exact h1.lt
theorem ownsMap_block {P : Program} {k : TypeId} {n : Nat} {D : DataW Unit} {w' : World} (h : w.ownsMap P k R b n D) (e : w'.heap[b]? = w.heap[b]?) : w'.ownsMap P k R b n D := by
  obtain ⟨es, clock, hb, r⟩ := h
  exact ⟨es, clock, e.trans hb, r⟩
theorem AMapAt.kept {w' : World} {T : List Nat} (h : AMapAt R enc w b M) (k : Kept T w w') (hb : b ∉ T) : AMapAt R enc w' b M := by
  obtain ⟨D, h1, h2⟩ := h.own
  exact ⟨⟨D, ownsMap_block h1 (k.block b h1.lt hb), h2⟩, h.srt⟩
theorem AMapAt.same {w' : World} (h : AMapAt R enc w b M) (k : Kept [] w w') : AMapAt R enc w' b M := h.kept k (by simp)
theorem kl_ne {j k : Int} (h : j ≠ k) : KL j ≠ KL k := fun e => by cases e; exact h rfl
theorem amap_made (w : World) : AMapAt (α := α) R enc (w.alloc (.map #[] 0)) w.heap.size [] :=
  ⟨⟨_, World.ownsMap_made w _ _ _, rfl, fun _ => rfl, fun _ _ h => by cases h⟩, List.Pairwise.nil⟩
/-- m[k], with ok: it is there. -/
theorem AMapAt.look_some (h : AMapAt R enc w b M) {t e : TypeId} (ht : Tryz.prog.underlying t = some (.map 3 e)) {z : Value} (hz : (zeroValue e).run Tryz.prog w = .ok z w) {zd : DataW Unit} (hzd : R z = some (zd, [])) {val : α → Value} (hR : ∀ v o ps, R v = some (enc o, ps) → v = val o)
    {k : Int} (hk : I64 k) {o : α} (ho : findA M k = some o) : (Instr.lookup t (.map (some b)) (I k) true).run Tryz.prog w = .ok (.tuple #[val o, .bool true]) w := by
  obtain ⟨D, h1, h2, h3, h4⟩ := h.own
  obtain ⟨v, ps, hrun, hv⟩ := h1.look_ok int_law ht hz hzd (kl_of hk)
  rw [h4 k o ho] at hv
  rw [hrun, hR v o ps hv, h3, ho]
  rfl
theorem AMapAt.look_none (h : AMapAt R enc w b M) {t e : TypeId} (ht : Tryz.prog.underlying t = some (.map 3 e)) {z : Value} (hz : (zeroValue e).run Tryz.prog w = .ok z w) {zd : DataW Unit} (hzd : R z = some (zd, [])) (hR : ∀ v ps, R v = some (zd, ps) → v = z)
    {k : Int} (hk : I64 k) (ho : findA M k = none) : (Instr.lookup t (.map (some b)) (I k) true).run Tryz.prog w = .ok (.tuple #[z, .bool false]) w := by
  obtain ⟨D, h1, h2, h3, h4⟩ := h.own
  obtain ⟨v, ps, hrun, hv⟩ := h1.look_ok int_law ht hz hzd (kl_of hk)
  have hh := h3 k
  rw [ho] at hh
  rw [Maps.atKey_of_not_has hh] at hv
  rw [hrun, hR v ps hv, hh]; rfl
theorem AMapAt.look (h : AMapAt R enc w b M) {t e : TypeId} (ht : Tryz.prog.underlying t = some (.map 3 e)) {z : α} {val : α → Value} (hz : (zeroValue e).run Tryz.prog w = .ok (val z) w) (hzd : R (val z) = some (enc z, [])) (hR : ∀ v o ps, R v = some (enc o, ps) → v = val o)
    {k : Int} (hk : I64 k) : (Instr.lookup t (.map (some b)) (I k) false).run Tryz.prog w = .ok (val ((findA M k).getD z)) w := by
  obtain ⟨D, h1, h2, h3, h4⟩ := h.own
  obtain ⟨v, ps, hrun, hv⟩ := h1.lookup int_law ht hz hzd (kl_of hk)
  have hh := h3 k
  cases ho : findA M k with
  | none =>
    rw [ho] at hh
    rw [Maps.atKey_of_not_has hh] at hv
    rw [hrun, hR v z ps hv]; rfl
  | some o =>
    rw [h4 k o ho] at hv
    rw [hrun, hR v o ps hv]; rfl
theorem len_ins (k : Int) (o : α) : ∀ M : List (Int × α), (insA M k o).length = M.length + 1
  | [] => rfl
  | p :: t => by unfold insA; split <;> simp [len_ins k o t]
theorem len_del (k : Int) : ∀ M : List (Int × α), (delA M k).length + (if (findA M k).isSome then 1 else 0) = M.length
  | [] => rfl
  | p :: t => by
    have := len_del k t
    unfold delA findA
    split
    · simp
    · simp only [List.length_cons]; omega
/-- m[k] = v. -/
theorem AMapAt.store (h : AMapAt R enc w b M) {t e : TypeId} (ht : Tryz.prog.underlying t = some (.map 3 e)) (hn : M.length < maxLen) {k : Int} (hk : I64 k) {v : Value} {o : α} {ps : List MemPlace} (hv : R v = some (enc o, ps)) :
    ∃ w', (Instr.mapUpdate t (.map (some b)) (I k) v).run Tryz.prog w = .ok () w' ∧ AMapAt R enc w' b (insA (delA M k) k o) ∧ Kept [b] w w' := by
  obtain ⟨D, h1, h2, h3, h4⟩ := h.own
  obtain ⟨w', hrun, hown, hturn⟩ := h1.store int_law ht hn (kl_of hk) hv
  have hlt := h1.lt
  have hf : ∀ j, findA (insA (delA M k) k o) j = if j = k then some o else findA M j := by
    intro j
    rw [find_ins _ _ _ (by rw [find_del h.srt, if_pos rfl]), find_del h.srt]
    by_cases hj : j = k
    · rw [if_pos hj, if_pos hj]
    · rw [if_neg hj, if_neg hj, if_neg hj]
  have hkey : WideAt.IsKeyLit (KL k) := trivial
  have hsz : Maps.size (D.put (KL k) (enc o)) = (insA (delA M k) k o).length := by
    rw [Maps.size_put (h1.tidy int_law), len_ins, h3, h2]
    have := len_del k M
    split <;> rename_i hc <;> simp only [hc, if_true, if_false, Bool.false_eq_true] at this <;> omega
  refine ⟨w', hrun, ⟨⟨D.put (KL k) (enc o), ?_, hsz, ?_, ?_⟩, sorted_ins (sorted_del h.srt _) _ _ (by rw [find_del h.srt, if_pos rfl])⟩, ?_⟩
  · obtain ⟨es, clock, hb, F, hs, hD⟩ := hown
    refine ⟨es, clock, hb, F, ?_, hD⟩
    have e1 : Maps.size (D.put (KL k) (enc o)) = es.size := by rw [hD]; simp [Maps.size, length_sorted]
    omega
  · intro j
    rw [hf]
    by_cases hj : j = k
    · subst hj; rw [if_pos rfl]; exact Maps.has_put_same (h1.isMap) hkey _
    · rw [if_neg hj, Maps.has_put_other (kl_ne hj)]; exact h3 j
  · intro j x hx z
    rw [hf] at hx
    by_cases hj : j = k
    · subst hj; rw [if_pos rfl] at hx; cases hx; exact Maps.atKey_put_same h1.isMap hkey _ _
    · rw [if_neg hj] at hx; rw [Maps.atKey_put_other (kl_ne hj)]; exact h4 j x hx z
  · have g := hturn.grown
    exact ⟨g.os, g.tape, g.output, g.size, fun i hi hn => g.block i hi (fun e => hn (by cases e; simp))⟩
/-- delete(m, k). -/
theorem AMapAt.drop (h : AMapAt R enc w b M) {t e : TypeId} (ht : Tryz.prog.underlying t = some (.map 3 e)) {k : Int} (hk : I64 k) (ty : TypeId) :
    ∃ w', (Builtin.delete_ #[t, 3] ty #[.map (some b), I k]).run Tryz.prog w = .ok (.tuple #[]) w' ∧ AMapAt R enc w' b (delA M k) ∧ Kept [b] w w' := by
  obtain ⟨D, h1, h2, h3, h4⟩ := h.own
  obtain ⟨w', hrun, hown, hturn⟩ := h1.drop int_law ht (kl_of hk) ty
  have hsz : Maps.size (D.del (KL k)) = (delA M k).length := by
    have e1 := Maps.size_del (k := KL k) (h1.tidy int_law)
    have e2 := len_del k M
    rw [h3, h2] at e1
    omega
  refine ⟨w', hrun, ⟨⟨D.del (KL k), ?_, hsz, ?_, ?_⟩, sorted_del h.srt _⟩, ?_⟩
  · obtain ⟨es, clock, hb, F, hs, hD⟩ := hown
    refine ⟨es, clock, hb, F, ?_, hD⟩
    have e1 : Maps.size (D.del (KL k)) = es.size := by rw [hD]; simp [Maps.size, length_sorted]
    omega
  · intro j
    rw [find_del h.srt]
    by_cases hj : j = k
    · subst hj; rw [if_pos rfl]; exact Maps.has_del_same
    · rw [if_neg hj, Maps.has_del_other (kl_ne hj)]; exact h3 j
  · intro j x hx z
    rw [find_del h.srt] at hx
    by_cases hj : j = k
    · subst hj; rw [if_pos rfl] at hx; cases hx
    · rw [if_neg hj] at hx; rw [Maps.atKey_del_other (kl_ne hj)]; exact h4 j x hx z
  · have g := hturn.grown
    exact ⟨g.os, g.tape, g.output, g.size, fun i hi hn => g.block i hi (fun e => hn (by cases e; simp))⟩
end
/-! ### The store's two maps -/
def obV (o : Ob) : Value := .agg #[S o.val, I o.seg, I o.pos]
def obD (o : Ob) : DataW Unit := .agg [.lit (.string o.val), .lit (.int .i64 o.seg), .lit (.int .i64 o.pos)]
def obL : List Value → Option (DataW Unit × List MemPlace)
  | [.string s, .int .i64 a, .int .i64 b] => some (.agg [.lit (.string s.data.toList), .lit (.int .i64 a), .lit (.int .i64 b)], [])
  | _ => none
def obR : Value → Option (DataW Unit × List MemPlace)
  | .agg cs => obL cs.toList
  | _ => none
theorem obR_mk (o : Ob) : obR (obV o) = some (obD o, []) := rfl
theorem obR_inv : ∀ v o ps, obR v = some (obD o, ps) → v = obV o := by
  intro v o ps h
  unfold obR at h
  split at h
  · next cs =>
    unfold obL at h
    split at h
    · next s a b hcs =>
      simp only [obD, Option.some.injEq, Prod.mk.injEq, DataW.agg.injEq, List.cons.injEq, DataW.lit.injEq, Lit.string.injEq, Lit.int.injEq, and_true, true_and] at h
      obtain ⟨⟨h1, h2, h3⟩, _⟩ := h
      have : cs = #[.string s, I a, I b] := by rw [← Array.toArray_toList (xs := cs), hcs]
      rw [this]
      unfold obV
      rw [h2, h3, ← h1]
    · cases h
  · cases h
theorem ob_zero (w : World) : (zeroValue 88).run Tryz.prog w = .ok (obV ⟨[], 0, 0⟩) w := by kernel_rfl
def ctV (n : Nat) : Value := I n
def ctD (n : Nat) : DataW Unit := .lit (.int .i64 n)
def ctR : Value → Option (DataW Unit × List MemPlace)
  | .int .i64 a => some (.lit (.int .i64 a), [])
  | _ => none
theorem ctR_mk (n : Nat) : ctR (ctV n) = some (ctD n, []) := rfl
theorem ctR_inv : ∀ v n ps, ctR v = some (ctD n, ps) → v = ctV n := by
  intro v n ps h
  unfold ctR at h
  split at h
  · next a =>
    simp only [ctD, Option.some.injEq, Prod.mk.injEq, DataW.lit.injEq, Lit.int.injEq, true_and] at h
    unfold ctV
    rw [h.1]
  · cases h
theorem ct_zero (w : World) : (zeroValue 3).run Tryz.prog w = .ok (ctV 0) w := by kernel_rfl
abbrev ObAt := AMapAt obR obD
abbrev CtAt := AMapAt ctR ctD
end

end Go.Proofs.YtncdfaocemfgfaaGreat
