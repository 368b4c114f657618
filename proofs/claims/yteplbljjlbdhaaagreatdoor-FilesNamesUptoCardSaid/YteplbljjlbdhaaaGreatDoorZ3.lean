/- Walks and lemmas on the program of this seat, used by its statements; each theorem bears its own conditions. -/
import Derived.Test.YteplbljjlbdhaaaGreatDoorZ2
import Derived.IntWalk
import Derived.Deep.CutRange
import Derived.Deep.RegionHeld3
namespace Go.Proofs.YteplbljjlbdhaaaGreatDoor
open Go.RowKit
set_option linter.unusedVariables false
set_option linter.unusedSimpArgs false
set_option linter.unusedSectionVars false
set_option maxHeartbeats 16000000
set_option maxRecDepth 100000
structure Fl where
 bs : List UInt8
 cs : List Int
 st : Int
 armed : Int
 keep : Int
 mask : UInt8
 dead : Bool
abbrev Nums (w : World) (b : Nat) (l : List Int) : Prop := w.heap[b]? = some (.cells (l.map fun n => I n).toArray 3 (0, 0))
def numAt (l : List Int) (i : Nat) : Int := l.getD i 0
theorem Nums.cell {w : World} {b : Nat} {l : List Int} (h : Nums w b l) (i : Nat) (hi : i < l.length) : w.cell? ⟨b, i, none⟩ = some (I (numAt l i)) := by
 rw [cell_at h, ← Array.getElem?_toList]
 simp [numAt, hi]
theorem Nums.free {w : World} {b : Nat} {l : List Int} (h : Nums w b l) (i : Nat) : w.frozen? ⟨b, i, none⟩ = false := free_at h i
theorem Nums.set {w : World} {b : Nat} {l : List Int} (h : Nums w b l) (i : Nat) (c : Int) : Nums (w.setCell ⟨b, i, none⟩ (I c)) b (l.set i c) := by
 have := heap_setCell_at h i (I c)
 rw [Nums, this]
 congr 2
 simp [List.map_set]
def RowX (w : World) (b : Nat) (l : List UInt8) : Prop := ∃ X : Array Value, w.heap[b]? = some (.cells ((Lib.byteCells l).toArray ++ X) 5 (0, 0))
theorem RowX.lt {w : World} {b : Nat} {l : List UInt8} (h : RowX w b l) : b < w.heap.size := by obtain ⟨X, h⟩ := h; exact lt_of_block h
theorem RowX.cell {w : World} {b : Nat} {l : List UInt8} (h : RowX w b l) (i : Nat) (hi : i < l.length) : w.cell? ⟨b, i, none⟩ = some (B (byteAt l i)) := by
 obtain ⟨X, h⟩ := h
 rw [cell_at h, Array.getElem?_append_left (by simp [Lib.byteCells]; exact hi), ← Array.getElem?_toList]
 exact byteCells_at l i hi
theorem RowX.free {w : World} {b : Nat} {l : List UInt8} (h : RowX w b l) (i : Nat) : w.frozen? ⟨b, i, none⟩ = false := by obtain ⟨X, h⟩ := h; exact free_at h i
theorem RowX.at {w w' : World} {b : Nat} {l : List UInt8} (h : RowX w b l) (e : w'.heap[b]? = w.heap[b]?) : RowX w' b l := by obtain ⟨X, h⟩ := h; exact ⟨X, e.trans h⟩
theorem RowX.kept {w w' : World} {b : Nat} {l : List UInt8} {T : List Nat} (h : RowX w b l) (k : Kept T w w') (hb : b ∉ T) : RowX w' b l := h.at (k.block b h.lt hb)
theorem RowX.set {w : World} {b : Nat} {l : List UInt8} (h : RowX w b l) (i : Nat) (c : UInt8) : RowX (w.setCell ⟨b, i, none⟩ (B c)) b (l.set i c) := by
 obtain ⟨X, h⟩ := h
 have h1 := heap_setCell_at h i (B c)
 by_cases hi : i < l.length
 ·refine ⟨X, ?_⟩
  rw [h1]
  congr 2
  apply Array.ext'
  simp [Lib.byteCells, List.map_set, List.set_append, hi]
 ·refine ⟨X.setIfInBounds (i - l.length) (B c), ?_⟩
  rw [h1]
  congr 2
  apply Array.ext'
  simp [Lib.byteCells, List.set_append, hi, List.set_eq_of_length_le (by omega : l.length ≤ i)]
def Fl.arr (f : Fl) (bb cb : Nat) : Array Value := #[.slice (some ⟨bb, 0, none⟩) f.bs.length f.bs.length, .slice (some ⟨cb, 0, none⟩) f.cs.length f.cs.length, I f.st, I f.armed, I f.keep, B f.mask, .bool f.dead]
structure FlAt (w : World) (fb bb cb : Nat) (f : Fl) : Prop where
 blk : w.heap[fb]? = some (.cells (f.arr bb cb) 126 (0, 0))
 row : RowX w bb f.bs
 cnt : Nums w cb f.cs
 n1 : bb ≠ fb
 n2 : cb ≠ fb
 n3 : cb ≠ bb
 len : f.bs.length = 512 * f.cs.length
 few : f.cs.length ≤ 256
 pos : 1 ≤ f.cs.length
section
variable {w : World} {fb bb cb : Nat} {f : Fl}
theorem FlAt.lt (h : FlAt w fb bb cb f) : fb < w.heap.size := lt_of_block h.blk
theorem FlAt.lt2 (h : FlAt w fb bb cb f) : bb < w.heap.size := h.row.lt
theorem FlAt.lt3 (h : FlAt w fb bb cb f) : cb < w.heap.size := lt_of_block h.cnt
theorem FlAt.kept {w' : World} {T : List Nat} (h : FlAt w fb bb cb f) (k : Kept T w w') (h1 : fb ∉ T) (h2 : bb ∉ T) (h3 : cb ∉ T) : FlAt w' fb bb cb f :=
 ⟨k.at h.blk h1, h.row.kept k h2, k.at h.cnt h3, h.n1, h.n2, h.n3, h.len, h.few, h.pos⟩
theorem FlAt.same {w' : World} (h : FlAt w fb bb cb f) (k : Kept [] w w') : FlAt w' fb bb cb f := h.kept k (by simp) (by simp) (by simp)
theorem FlAt.free (h : FlAt w fb bb cb f) (i : Nat) : w.frozen? ⟨fb, i, none⟩ = false := free_at h.blk i
theorem FlAt.cells (h : FlAt w fb bb cb f) : w.cell? ⟨fb, 0, none⟩ = some (.slice (some ⟨bb, 0, none⟩) f.bs.length f.bs.length) ∧ w.cell? ⟨fb, 1, none⟩ = some (.slice (some ⟨cb, 0, none⟩) f.cs.length f.cs.length) ∧ w.cell? ⟨fb, 2, none⟩ = some (I f.st) ∧ w.cell? ⟨fb, 3, none⟩ = some (I f.armed) ∧ w.cell? ⟨fb, 4, none⟩ = some (I f.keep) ∧ w.cell? ⟨fb, 5, none⟩ = some (B f.mask) ∧ w.cell? ⟨fb, 6, none⟩ = some (.bool f.dead) := by
 have hb := h.blk
 unfold Fl.arr at hb
 refine ⟨?_, ?_, ?_, ?_, ?_, ?_, ?_⟩ <;> (rw [cell_at hb]; rfl)
theorem set_other {w : World} {b k i : Nat} {v : Value} (h : k ≠ b) : (w.setCell ⟨b, i, none⟩ v).heap[k]? = w.heap[k]? := Below.heap_setCell _ _ _ _ h
theorem FlAt.of (h : FlAt w fb bb cb f) {i : Nat} {v : Value} {f' : Fl} (e1 : f'.bs = f.bs) (e2 : f'.cs = f.cs) (e3 : (f.arr bb cb).setIfInBounds i v = f'.arr bb cb) : FlAt (w.setCell ⟨fb, i, none⟩ v) fb bb cb f' :=
 ⟨by rw [heap_setCell_at h.blk i v, e3], by rw [e1]; exact h.row.at (set_other h.n1), by rw [e2]; exact (set_other h.n2).trans h.cnt, h.n1, h.n2, h.n3, by rw [e1, e2]; exact h.len, by rw [e2]; exact h.few, by rw [e2]; exact h.pos⟩
theorem FlAt.set2 (h : FlAt w fb bb cb f) (x : Int) : FlAt (w.setCell ⟨fb, 2, none⟩ (I x)) fb bb cb { f with st := x } := h.of rfl rfl rfl
theorem FlAt.set3 (h : FlAt w fb bb cb f) (x : Int) : FlAt (w.setCell ⟨fb, 3, none⟩ (I x)) fb bb cb { f with armed := x } := h.of rfl rfl rfl
theorem FlAt.set6 (h : FlAt w fb bb cb f) (x : Bool) : FlAt (w.setCell ⟨fb, 6, none⟩ (.bool x)) fb bb cb { f with dead := x } := h.of rfl rfl rfl
theorem FlAt.put (h : FlAt w fb bb cb f) (i : Nat) (c : UInt8) : FlAt (w.setCell ⟨bb, i, none⟩ (B c)) fb bb cb { f with bs := f.bs.set i c } := by
 refine ⟨?_, h.row.set i c, (set_other h.n3).trans h.cnt, h.n1, h.n2, h.n3, by simp; exact h.len, h.few, h.pos⟩
 rw [(set_other (Ne.symm h.n1)), h.blk]
 unfold Fl.arr
 simp
theorem FlAt.count (h : FlAt w fb bb cb f) (i : Nat) (c : Int) : FlAt (w.setCell ⟨cb, i, none⟩ (I c)) fb bb cb { f with cs := f.cs.set i c } := by
 refine ⟨?_, h.row.at (set_other (Ne.symm h.n3)), h.cnt.set i c, h.n1, h.n2, h.n3, by simp; exact h.len, by simp; exact h.few, by simp; exact h.pos⟩
 rw [(set_other (Ne.symm h.n2)), h.blk]
 unfold Fl.arr
 simp
end
def FlPost (v : Value) (fb bb cb : Nat) (w : World) (f : Fl) (e : Ending) (w' : World) : Prop := e = .returned v ∧ FlAt w' fb bb cb f ∧ Kept [fb, bb, cb] w w'
def onL (bs : List UInt8) (a n : Nat) (g : Nat → UInt8 → UInt8) : List UInt8 := bs.mapIdx fun i b => if a ≤ i ∧ i < a + n then g (i - a) b else b
theorem onL_len (bs : List UInt8) (a n : Nat) (g : Nat → UInt8 → UInt8) : (onL bs a n g).length = bs.length := by simp [onL]
theorem onL_zero (bs : List UInt8) (a : Nat) (g : Nat → UInt8 → UInt8) : onL bs a 0 g = bs := by
 apply List.ext_getElem
 ·simp [onL]
 ·intro i h1 h2
  simp only [onL, List.getElem_mapIdx]
  rw [if_neg (by omega)]
theorem onL_at (bs : List UInt8) (a n : Nat) (g : Nat → UInt8 → UInt8) (i : Nat) (hi : i < bs.length) : byteAt (onL bs a n g) i = if a ≤ i ∧ i < a + n then g (i - a) (byteAt bs i) else byteAt bs i := by
 rw [byteAt_eq (onL bs a n g) i (by rw [onL_len]; exact hi), byteAt_eq bs i hi]
 simp only [onL, List.getElem_mapIdx]
theorem onL_succ (bs : List UInt8) (a n : Nat) (g : Nat → UInt8 → UInt8) (h : a + n < bs.length) : onL bs a (n + 1) g = (onL bs a n g).set (a + n) (g n (byteAt bs (a + n))) := by
 apply List.ext_getElem
 ·simp [onL]
 ·intro i h1 h2
  rw [List.getElem_set]
  simp only [onL, List.getElem_mapIdx]
  by_cases he : a + n = i
  ·subst he
   rw [if_pos rfl, if_pos (by omega), byteAt_eq bs (a + n) h]
   congr 1; omega
  ·rw [if_neg he]
   by_cases hr : a ≤ i ∧ i < a + n
   ·rw [if_pos hr, if_pos (by omega)]
   ·rw [if_neg hr, if_neg (by omega)]
def progL (bs : List UInt8) (a : Nat) (s : List UInt8) : List UInt8 := onL bs a s.length fun j b => b &&& byteAt s j
def eraseL (bs : List UInt8) (k : Nat) : List UInt8 := onL bs (512 * k) 512 fun _ _ => 255
theorem wrap_small (n : Nat) (h : n < 256) : IntKind.u8.wrap (n : Int) = n := by
 rw [IntKind.wrap_u8]; omega
@[go_sem] theorem and_u8 (a c : UInt8) : bits .and .u8 (a.toNat : Int) (c.toNat : Int) = ((a &&& c).toNat : Int) := by
 have ha := a.toNat_lt
 have hc := c.toNat_lt
 have key : (BitVec.ofInt 8 (a.toNat : Int) &&& BitVec.ofInt 8 (c.toNat : Int)).toNat = (a &&& c).toNat := by
  rw [BitVec.toNat_and, BitVec.toNat_ofInt, BitVec.toNat_ofInt, UInt8.toNat_and]
  congr 1 <;> omega
 show IntKind.u8.wrap (((BitVec.ofInt 8 (a.toNat : Int) &&& BitVec.ofInt 8 (c.toNat : Int)).toNat : Nat) : Int) = _
 rw [key, wrap_small _ (a &&& c).toNat_lt]
@[go_sem] theorem or_u8 (a c : UInt8) : bits .or .u8 (a.toNat : Int) (c.toNat : Int) = ((a ||| c).toNat : Int) := by
 have ha := a.toNat_lt
 have hc := c.toNat_lt
 have key : (BitVec.ofInt 8 (a.toNat : Int) ||| BitVec.ofInt 8 (c.toNat : Int)).toNat = (a ||| c).toNat := by
  rw [BitVec.toNat_or, BitVec.toNat_ofInt, BitVec.toNat_ofInt, UInt8.toNat_or]
  congr 1 <;> omega
 show IntKind.u8.wrap (((BitVec.ofInt 8 (a.toNat : Int) ||| BitVec.ofInt 8 (c.toNat : Int)).toNat : Nat) : Int) = _
 rw [key, wrap_small _ (a ||| c).toNat_lt]
theorem or_all (a : UInt8) : a ||| 255 = 255 := by
 have h : ∀ n : Fin 256, UInt8.ofNat n.val ||| 255 = 255 := by decide
 have := h ⟨a.toNat, a.toNat_lt⟩
 simpa using this
theorem and_all (c : UInt8) : (255 : UInt8) &&& c = c := by
 have h : ∀ n : Fin 256, (255 : UInt8) &&& UInt8.ofNat n.val = UInt8.ofNat n.val := by decide
 have := h ⟨c.toNat, c.toNat_lt⟩
 simpa using this
@[go_sem] theorem or_u8_all (a : UInt8) : bits .or .u8 (a.toNat : Int) 255 = (255 : Int) := by
 have := or_u8 a 255
 rw [or_all] at this
 exact this
def withinF (f : Fl) (a n : Int) : Bool := decide (0 ≤ a ∧ 0 ≤ n ∧ a ≤ f.bs.length ∧ n ≤ f.bs.length - a)
theorem FlAt.size {w : World} {fb bb cb : Nat} {f : Fl} (h : FlAt w fb bb cb f) : f.bs.length ≤ 131072 := by have := h.len; have := h.few; omega
theorem blocks_any (w : World) (fb bb cb : Nat) (f : Fl) (h : FlAt w fb bb cb f) : Calls Tryz.prog 34 #[Ptr fb] w fun e w' => e = .returned (I f.cs.length) ∧ w' = w := by
 obtain ⟨c0, c1, c2, c3, c4, c5, c6⟩ := h.cells
 have hl := h.few
 go_enter Tryz.func34, Tryz.ntmps34
 go_wp2_with (fail)
 go_ret
 exact ⟨rfl, rfl⟩
theorem fdead_any (w : World) (fb bb cb : Nat) (f : Fl) (h : FlAt w fb bb cb f) : Calls Tryz.prog 176 #[Ptr fb] w fun e w' => e = .returned (.bool f.dead) ∧ w' = w := by
 obtain ⟨c0, c1, c2, c3, c4, c5, c6⟩ := h.cells
 go_enter Tryz.func176, Tryz.ntmps176
 go_wp2_with (fail)
 go_ret
 exact ⟨rfl, rfl⟩
theorem within_any (w : World) (fb bb cb : Nat) (f : Fl) (h : FlAt w fb bb cb f) (a n : Int) : Calls Tryz.prog 193 #[Ptr fb, I a, I n] w fun e w' => e = .returned (.bool (withinF f a n)) ∧ w' = w := by
 obtain ⟨c0, c1, c2, c3, c4, c5, c6⟩ := h.cells
 have hl := h.size
 have hlI : (f.bs.length : Int) ≤ 131072 := by omega
 clear h
 go_enter Tryz.func193, Tryz.ntmps193
 by_cases a1 : 0 ≤ a
 case neg =>
  have HY : Hid (withinF f a n = false) := Lib.hid (decide_eq_false (fun q => a1 q.1))
  have d1 : decide (0 ≤ a) = false := decide_eq_false a1
  clear a1
  go_wp2_with (fail)
  go_ret
  exact ⟨by rw [HY.out]; rfl, rfl⟩
 by_cases a2 : 0 ≤ n
 case neg =>
  have HY : Hid (withinF f a n = false) := Lib.hid (decide_eq_false (fun q => a2 q.2.1))
  have d2 : decide (0 ≤ n) = false := decide_eq_false a2
  clear a2
  go_wp2_with (fail)
  go_ret
  exact ⟨by rw [HY.out]; rfl, rfl⟩
 by_cases a3 : a ≤ f.bs.length
 case neg =>
  have HY : Hid (withinF f a n = false) := Lib.hid (decide_eq_false (fun q => a3 q.2.2.1))
  have d3 : decide (a ≤ (f.bs.length : Int)) = false := decide_eq_false a3
  clear a3
  go_wp2_with (fail)
  go_ret
  exact ⟨by rw [HY.out]; rfl, rfl⟩
 by_cases a4 : n ≤ f.bs.length - a
 case neg =>
  have HY : Hid (withinF f a n = false) := Lib.hid (decide_eq_false (fun q => a4 q.2.2.2))
  have d4 : decide (n ≤ (f.bs.length : Int) - a) = false := decide_eq_false a4
  clear a4
  go_wp2_with (fail)
  go_ret
  exact ⟨by rw [HY.out]; rfl, rfl⟩
 have HY : Hid (withinF f a n = true) := Lib.hid (decide_eq_true ⟨a1, a2, a3, a4⟩)
 go_wp2_with (fail)
 go_ret
 exact ⟨by rw [HY.out]; rfl, rfl⟩
theorem ftold_any (b : Bool) (w : World) : Calls Tryz.prog 192 #[.bool b] w fun e w' => e = .returned (I (if b then 2 else 0)) ∧ w' = w := by
 cases b with
 | false =>
  go_enter Tryz.func192, Tryz.ntmps192
  go_wp2_with (fail)
  go_ret
  exact ⟨rfl, rfl⟩
 | true =>
  go_enter Tryz.func192, Tryz.ntmps192
  go_wp2_with (fail)
  go_ret
  exact ⟨rfl, rfl⟩
theorem fread_any (w : World) (fb bb cb : Nat) (f : Fl) (h : FlAt w fb bb cb f) (hd : f.dead = false) (a n : Nat) (hp : 1 ≤ n) (hn : a + n ≤ f.bs.length) : Calls Tryz.prog 188 #[Ptr fb, I a, I n] w fun e w' => e = .returned (.tuple #[S ((f.bs.drop a).take n), I 0]) ∧ w' = w := by
 have HB := Lib.hid (within_any w fb bb cb f h a n)
 have hw : withinF f a n = true := decide_eq_true ⟨by omega, by omega, by omega, by omega⟩
 rw [hw] at HB
 obtain ⟨c0, c1, c2, c3, c4, c5, c6⟩ := h.cells
 rw [hd] at c6
 have hl := h.size
 have hlI : (f.bs.length : Int) ≤ 131072 := by omega
 have hnI : (a : Int) + n ≤ f.bs.length := by omega
 have hcv : (convert 64 9 (.slice (some ⟨bb, a, none⟩) n (f.bs.length - a))).run Tryz.prog w = .ok (S ((f.bs.drop a).take n)) w := by
  have hr := run_convert_bytes_arg (P := Tryz.prog) w 64 5 Tryz.underlying64 Tryz.underlying5 bb a n (f.bs.length - a) (((f.bs.drop a).take n).map fun c => (c.toNat : Int)) (by simp; omega) (fun i hi => by
   have h1 := h.row.cell (a + i) (by omega)
   rw [h1, byteAt_eq f.bs (a + i) (by omega)]
   simp [List.getD, List.getElem?_take, hi]
   rw [List.getElem?_eq_getElem (by omega)]
   rfl) 9 Tryz.underlying9
  rw [hr]
  have : strOfNums (((f.bs.drop a).take n).map fun c => (c.toNat : Int)) = ⟨((f.bs.drop a).take n).toArray⟩ := by
   unfold strOfNums; rw [List.map_map]; congr 1
   have : ((f.bs.drop a).take n).map ((fun n : Int => UInt8.ofNat n.toNat) ∘ fun c : UInt8 => (c.toNat : Int)) = (f.bs.drop a).take n := by
    conv => rhs; rw [← List.map_id ((f.bs.drop a).take n)]
    apply List.map_congr_left; intro x _; simp
   rw [this]
  rw [this]
 have hlt : a < f.bs.length := by omega
 have hltI : (a : Int) < f.bs.length := by omega
 have hne : (f.bs.length - a == 0) = false := by simp; omega
 clear h hd hw
 go_enter Tryz.func188, Tryz.ntmps188
 go_wp2_with (fail)
 refine HB.out.mono ?_
 rintro e w1 ⟨rfl, rfl⟩
 go_wp2_with (fail)
 go_ret2
 exact ⟨rfl, rfl⟩
theorem step_any (w : World) (fb bb cb : Nat) (f : Fl) (h : FlAt w fb bb cb f) (ha : f.armed = 0) : Calls Tryz.prog 191 #[Ptr fb] w (FlPost (.bool false) fb bb cb w { f with st := wrap64 (f.st + 1) }) := by
 obtain ⟨c0, c1, c2, c3, c4, c5, c6⟩ := h.cells
 have hf := h.free
 rw [ha] at c3
 have H := Lib.hid h
 clear h ha
 go_enter Tryz.func191, Tryz.ntmps191
 go_wp2_with (fail)
 go_ret
 exact ⟨rfl, H.out.set2 _, (Kept.refl _ _).setCell (.inl (by simp)) _⟩
def Fl.stepped (f : Fl) : Fl := { f with st := wrap64 (f.st + 1) }
theorem prog_any (w : World) (fb bb cb : Nat) (f : Fl) (h : FlAt w fb bb cb f) (hd : f.dead = false) (ha : f.armed = 0) (a : Nat) (s : List UInt8) (hs : s ≠ []) (hn : a + s.length ≤ f.bs.length) (hp : a / 64 = (a + s.length - 1) / 64) :
  Calls Tryz.prog 162 #[Ptr fb, I a, S s] w (FlPost (I 0) fb bb cb w { f.stepped with bs := progL f.bs a s }) := by
 have HB := Lib.hid (within_any w fb bb cb f h a s.length)
 have hw : withinF f a s.length = true := decide_eq_true ⟨by omega, by omega, by omega, by omega⟩
 rw [hw] at HB
 have HST := Lib.hid (step_any w fb bb cb f h ha)
 obtain ⟨c0, c1, c2, c3, c4, c5, c6⟩ := h.cells
 rw [hd] at c6
 have hl := h.size
 have hlI : (f.bs.length : Int) ≤ 131072 := by omega
 have hnI : (a : Int) + s.length ≤ f.bs.length := by omega
 have hse : (s == []) = false := by simpa using hs
 have hse2 : s.isEmpty = false := by simpa using hs
 have hpos : 1 ≤ s.length := by have := List.length_pos_iff.2 hs; omega
 have hposI : (1 : Int) ≤ s.length := by omega
 have hq : ((a : Int) / 64 != ((a : Int) + s.length - 1) / 64) = false := by simp; omega
 have HP := Lib.hid (And.intro hp hs)
 have HD := Lib.hid hd
 have HN := Lib.hid hn
 clear h hw hd ha hp hs
 go_enter Tryz.func162, Tryz.ntmps162
 go_wp2_with (fail)
 refine HB.out.mono ?_
 rintro e w1 ⟨rfl, rfl⟩
 go_wp2_with (fail)
 refine HST.out.mono ?_
 rintro e w2 ⟨rfl, h2, k2⟩
 have H2 := Lib.hid (And.intro h2 k2)
 clear h2 k2 c0 c1 c2 c3 c4 c5 c6
 go_wp2_with (fail)
 go_loopw [39] (fun i wr => ∃ k : Nat, k ≤ s.length ∧ i = I k ∧ FlAt wr fb bb cb { f.stepped with bs := onL f.bs a k fun j b => b &&& byteAt s j } ∧ Kept [fb, bb, cb] w1 wr) (fun i _ => s.length - (intOf i).toNat)
 case atStart => exact ⟨0, by omega, rfl, by rw [onL_zero]; exact H2.out.1, H2.out.2⟩
 case round =>
  obtain ⟨k, hk, rfl, h3, k3⟩ := hrel
  obtain ⟨cur, hcur⟩ : ∃ cur, (onL f.bs a k fun j b => b &&& byteAt s j) = cur := ⟨_, rfl⟩
  rw [hcur] at h3
  obtain ⟨c0, c1, c2, c3, c4, c5, c6⟩ := h3.cells
  have hcl : cur.length = f.bs.length := by rw [← hcur, onL_len]
  by_cases hlt : k < s.length
  ·have hltI : (k : Int) < s.length := by omega
   have hcell := h3.row.cell (a + k) (by show a + k < cur.length; omega)
   have hat : byteAt cur (a + k) = byteAt f.bs (a + k) := by rw [← hcur, onL_at _ _ _ _ _ (by omega), if_neg (by omega)]
   have hfree := h3.row.free
   have hnext := onL_succ f.bs a k (fun j b => b &&& byteAt s j) (by omega)
   rw [hcur, ← hat] at hnext
   have H3 := Lib.hid (And.intro h3 (And.intro k3 hnext))
   have HCL := Lib.hid hcl
   simp only at hcell c0
   rw [hcl] at c0
   clear h3 k3 hat hnext hcur hcl
   go_wp2_with (fail)
   go_roundw
   case rel =>
    have q := H3.out.1.put (a + k) (byteAt cur (a + k) &&& byteAt s k)
    have q2 := H3.out.2.1.setCell (.inl (by simp) : (⟨bb, a + k, none⟩ : Addr).block ∈ [fb, bb, cb] ∨ _) (B (byteAt cur (a + k) &&& byteAt s k))
    simp only [B, UInt8.toNat_and] at q q2
    exact ⟨k + 1, by omega, by go_num, by rw [H3.out.2.2]; exact q, q2⟩
   case measure => simp [intOf]; omega
  ·have hke : k = s.length := by omega
   have hdone : ¬ (k : Int) < s.length := by omega
   have hdf : decide ((k : Int) < s.length) = false := decide_eq_false hdone
   have hfin : cur = progL f.bs a s := by rw [← hcur, hke]; rfl
   have H3 := Lib.hid (And.intro h3 (And.intro k3 hfin))
   clear h3 k3 hcur hcl hke hfin c0 c1 c2 c3 c4 c5 c6
   go_wp2_with (fail)
   refine (ftold_any false wr).mono ?_
   rintro e w4 ⟨rfl, rfl⟩
   go_wp2_with (fail)
   go_ret
   exact ⟨rfl, by rw [← H3.out.2.2]; exact H3.out.1, H3.out.2.1⟩
end Go.Proofs.YteplbljjlbdhaaaGreatDoor
