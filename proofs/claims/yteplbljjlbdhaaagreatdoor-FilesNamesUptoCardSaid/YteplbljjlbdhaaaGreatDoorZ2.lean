/- Walks and lemmas on the program of this seat, used by its statements; each theorem bears its own conditions. -/
import Derived.Test.YteplbljjlbdhaaaGreatDoorRows
import Derived.WalkKit
import Derived.WalkSpells
import Derived.WalkLawsBesides
import Derived.Deep.QuietTactic
import Derived.BigQuiet
import Derived.Lib.Hide
import Derived.StillTailTactics
import Derived.Deep.RegionWith
import Derived.Deep.Cut
import Derived.Deep.LoopGhost
import Derived.Lib.TrimU
import Derived.Handy
import Derived.OwnWalk
import Derived.Deep.AppendLies
import Derived.Laws.CopyOwn
import Derived.Lib.BufferWrite
import Derived.Laws.Bits128
namespace Go.Proofs.YteplbljjlbdhaaaGreatDoor
open Go.RowKit
set_option linter.unusedVariables false
set_option linter.unusedSimpArgs false
set_option linter.unusedSectionVars false
set_option maxHeartbeats 16000000
set_option maxRecDepth 100000
structure Kept (S : List Nat) (w w' : World) : Prop where
 os : w'.os = w.os
 tape : w'.tape = w.tape
 output : w'.output = w.output
 size : w.heap.size ≤ w'.heap.size
 block : ∀ k, k < w.heap.size → k ∉ S → w'.heap[k]? = w.heap[k]?
theorem Kept.refl (S : List Nat) (w : World) : Kept S w w := ⟨rfl, rfl, rfl, Nat.le_refl _, fun _ _ _ => rfl⟩
theorem Kept.trans {S S' : List Nat} {a b c : World} (h : Kept S a b) (k : Kept S' b c) (hs : ∀ x ∈ S', x ∈ S ∨ a.heap.size ≤ x) : Kept S a c :=
 ⟨k.os.trans h.os, k.tape.trans h.tape, k.output.trans h.output, Nat.le_trans h.size k.size, fun i hi hn => by
  rw [k.block i (by have := h.size; omega) (fun hm => by rcases hs i hm with h1 | h1; exact hn h1; omega), h.block i hi hn]⟩
theorem Kept.trans' {S : List Nat} {a b c : World} (h : Kept S a b) (k : Kept S b c) : Kept S a c := h.trans k fun _ hx => .inl hx
theorem Kept.mono {S S' : List Nat} {a b : World} (h : Kept S a b) (hs : ∀ x ∈ S, x ∈ S') : Kept S' a b :=
 ⟨h.os, h.tape, h.output, h.size, fun i hi hn => h.block i hi fun hm => hn (hs i hm)⟩
theorem Kept.drew {S : List Nat} {a w : World} (h : Kept S a w) : Kept S a w.drew := ⟨h.os, h.tape, h.output, h.size, h.block⟩
theorem Kept.drewN {S : List Nat} {a w : World} (h : Kept S a w) (n : Nat) : Kept S a (w.drewN n) := ⟨h.os, h.tape, h.output, h.size, h.block⟩
theorem Kept.alloc {S : List Nat} {a w : World} (h : Kept S a w) (o : Obj) : Kept S a (w.alloc o) :=
 h.trans' ⟨rfl, rfl, rfl, by simp, fun k hk _ => Below.heap_alloc _ _ _ hk⟩
theorem Kept.setCell {S : List Nat} {a w : World} (h : Kept S a w) {p : Addr} (hp : p.block ∈ S ∨ a.heap.size ≤ p.block) (u : Value) : Kept S a (w.setCell p u) :=
 ⟨h.os, h.tape, h.output, by have := h.size; simp [World.setCell]; exact this, fun k hk hn => by
  rw [Below.heap_setCell _ _ _ _ (fun e => by subst e; rcases hp with h1 | h1; exact hn h1; omega)]; exact h.block k hk hn⟩
theorem Kept.of_below {S : List Nat} {B : Nat} {w w' : World} (h : Below B w w') (hB : w.heap.size ≤ B) : Kept S w w' :=
 ⟨h.os, h.tape, h.output, h.size, fun k hk _ => h.block k (by omega)⟩
theorem Kept.below {w w' : World} (h : Kept [] w w') : Below w.heap.size w w' := ⟨h.os, h.tape, h.output, h.size, fun k hk => h.block k hk (by simp)⟩
theorem Kept.cell {S : List Nat} {w w' : World} (h : Kept S w w') {p : Addr} (hp : p.block < w.heap.size) (hn : p.block ∉ S) : w'.cell? p = w.cell? p := World.cell?_of_block (w := w) (h.block p.block hp hn)
theorem Kept.at {S : List Nat} {w w' : World} (h : Kept S w w') {k : Nat} {o : Obj} (hk : w.heap[k]? = some o) (hn : k ∉ S) : w'.heap[k]? = some o := (h.block k (lt_of_block hk) hn).trans hk
theorem heap_setCell_at {w : World} {b : Nat} {cs : Array Value} {t : TypeId} (h : w.heap[b]? = some (.cells cs t (0, 0))) (i : Nat) (v : Value) :
  (w.setCell ⟨b, i, none⟩ v).heap[b]? = some (.cells (cs.setIfInBounds i v) t (0, 0)) := by
 simp [World.setCell, Array.getElem?_modify, h]
theorem cell_at {w : World} {b : Nat} {cs : Array Value} {t : TypeId} (h : w.heap[b]? = some (.cells cs t (0, 0))) (i : Nat) : w.cell? ⟨b, i, none⟩ = cs[i]? := by
 simp [World.cell?, h]
theorem free_at {w : World} {b : Nat} {cs : Array Value} {t : TypeId} (h : w.heap[b]? = some (.cells cs t (0, 0))) (i : Nat) : w.frozen? ⟨b, i, none⟩ = false := by
 simp [World.frozen?, h]
abbrev S (l : List UInt8) : Value := .string ⟨l.toArray⟩
abbrev I (n : Int) : Value := .int .i64 n
abbrev Ptr (b : Nat) : Value := .pointer (some ⟨b, 0, none⟩)
@[go_sem] theorem str_add (a c : List UInt8) : (⟨a.toArray⟩ : ByteArray) ++ ⟨c.toArray⟩ = ⟨(a ++ c).toArray⟩ := by
 apply ByteArray.ext; simp
@[go_sem] theorem str_add_nil (a : List UInt8) : (⟨a.toArray⟩ : ByteArray) ++ ⟨#[]⟩ = ⟨(a ++ []).toArray⟩ := str_add a []
@[go_sem] theorem str_nil_add (a : List UInt8) : (⟨#[]⟩ : ByteArray) ++ ⟨a.toArray⟩ = ⟨a.toArray⟩ := str_add [] a
@[go_sem] theorem str_cut (l : List UInt8) (a b : Nat) : (⟨l.toArray⟩ : ByteArray).extract a b = ⟨((l.take b).drop a).toArray⟩ := by
 rw [Lib.extract_eq]; simp [List.drop_take]
abbrev B (c : UInt8) : Value := .int .u8 (c.toNat : Int)
theorem ret_I {a b : Int} (h : a = b) : Ending.returned (I a) = .returned (I b) := by rw [h]
theorem ret_B {a b : Bool} (h : a = b) : Ending.returned (.bool a) = .returned (.bool b) := by rw [h]
theorem ret_S {a b : List UInt8} (h : a = b) : Ending.returned (S a) = .returned (S b) := by rw [h]
theorem heap_new (w : World) (o : Obj) : (w.alloc o).heap[w.heap.size]? = some o := by
 show (w.heap.push o)[w.heap.size]? = _
 simp
theorem Kept.new {a b c : World} {S' : List Nat} (h : Kept [] a b) (k : Kept S' b c) (hs : ∀ x ∈ S', a.heap.size ≤ x) : Kept [] a c := h.trans k fun x hx => .inr (hs x hx)
theorem Kept.new1 {a b c : World} {x : Nat} (h : Kept [] a b) (k : Kept [x] b c) (hs : a.heap.size ≤ x) : Kept [] a c := h.new k fun y hy => by simp at hy; omega
def byteAt (l : List UInt8) (p : Nat) : UInt8 := l.getD p 0
theorem byteAt_le (l : List UInt8) (p : Nat) : (0 : Int) ≤ (byteAt l p).toNat ∧ ((byteAt l p).toNat : Int) ≤ 255 := by have := (byteAt l p).toNat_lt; omega
theorem byteAt_eq (l : List UInt8) (p : Nat) (h : p < l.length) : byteAt l p = l[p] := by simp [byteAt, List.getD, h]
@[go_sem] theorem str_get (l : List UInt8) (p : Nat) (h : p < (⟨l.toArray⟩ : ByteArray).size) : (⟨l.toArray⟩ : ByteArray)[p]'h = byteAt l p := by
 have h' : p < l.length := by simpa [ByteArray.size] using h
 rw [byteAt_eq l p h']
 rfl
@[go_sem] theorem wrap_byte (c : UInt8) : wrap64 (c.toNat : Int) = c.toNat := by
 have h1 := c.toNat_lt
 have h2 : (0 : Int) ≤ c.toNat ∧ (c.toNat : Int) ≤ 255 := by omega
 generalize (c.toNat : Int) = x at *
 unfold wrap64
 omega
abbrev Row (w : World) (b : Nat) (l : List UInt8) : Prop := w.heap[b]? = some (.cells (Lib.byteCells l).toArray 5 (0, 0))
theorem byteCells_at (l : List UInt8) (i : Nat) (h : i < l.length) : (Lib.byteCells l)[i]? = some (B (byteAt l i)) := by
 simp [Lib.byteCells, h, byteAt_eq l i h]
theorem Row.cell {w : World} {b : Nat} {l : List UInt8} (h : Row w b l) (i : Nat) (hi : i < l.length) : w.cell? ⟨b, i, none⟩ = some (B (byteAt l i)) := by
 rw [cell_at h, ← Array.getElem?_toList]; exact byteCells_at l i hi
theorem Row.free {w : World} {b : Nat} {l : List UInt8} (h : Row w b l) (i : Nat) : w.frozen? ⟨b, i, none⟩ = false := free_at h i
theorem Row.set {w : World} {b : Nat} {l : List UInt8} (h : Row w b l) (i : Nat) (c : UInt8) : Row (w.setCell ⟨b, i, none⟩ (B c)) b (l.set i c) := by
 have := heap_setCell_at h i (B c)
 rw [Row, this]
 congr 2
 simp [Lib.byteCells, List.map_set]
theorem Row.kept {S : List Nat} {w w' : World} {b : Nat} {l : List UInt8} (h : Row w b l) (k : Kept S w w') (hn : b ∉ S) : Row w' b l := k.at h hn
theorem Row.lt {w : World} {b : Nat} {l : List UInt8} (h : Row w b l) : b < w.heap.size := lt_of_block h
def zerosL (n : Nat) : List UInt8 := List.replicate n 0
theorem zerosL_len (n : Nat) : (zerosL n).length = n := by simp [zerosL]
theorem byte_info : (Tryz.prog.info? 5).map (fun i => (i.zero, i.size, i.bytes)) = some (some (.int .u8 0), 1, 1) := by kernel_rfl
theorem madeZ (n : Nat) : madeCells #[.int .u8 0] n = (Lib.byteCells (zerosL n)).toArray := by
 apply Array.ext'
 rw [toList_madeCells_one]
 simp [Lib.byteCells, zerosL]
theorem make_bytes (w : World) (n : Nat) (h : n ≤ 1000000000) :
  (Instr.makeSlice 64 (I n) (I n)).run Tryz.prog w = .ok (.slice (some ⟨w.heap.size, 0, none⟩) n n) (w.alloc (.cells (Lib.byteCells (zerosL n)).toArray 5)) := by
 obtain ⟨i, hi, hz, hs, hb⟩ := info_parts byte_info
 have hr := run_make (P := Tryz.prog) w 64 5 i _ Tryz.underlying64 hi hz .i64 .i64 n n (by omega) (Int.le_refl _) (by rw [hb]; omega) (by omega)
 simp only [Int.toNat_natCast, hs, Nat.mul_one] at hr
 rw [hr]
 show Result.ok _ (w.alloc (.cells (madeCells #[.int .u8 0] n) 5)) = _
 rw [madeZ]
theorem conv_row {w : World} {b : Nat} {l : List UInt8} (h : Row w b l) (c : Nat) : (convert 64 9 (.slice (some ⟨b, 0, none⟩) l.length c)).run Tryz.prog w = .ok (S l) w := by
 have hr := run_convert_bytes_arg (P := Tryz.prog) w 64 5 Tryz.underlying64 Tryz.underlying5 b 0 l.length c (l.map fun c => (c.toNat : Int)) (by simp) (fun i hi => by
  rw [cell_at h, Nat.zero_add, ← Array.getElem?_toList]
  simp [Lib.byteCells, List.getD, hi]) 9 Tryz.underlying9
 rw [hr]
 have : strOfNums (l.map fun c => (c.toNat : Int)) = ⟨l.toArray⟩ := by
  unfold strOfNums; rw [List.map_map]; congr 1
  have : l.map ((fun n : Int => UInt8.ofNat n.toNat) ∘ fun c : UInt8 => (c.toNat : Int)) = l := by
   conv => rhs; rw [← List.map_id l]
   apply List.map_congr_left; intro x _; simp
  rw [this]
 rw [this]
end Go.Proofs.YteplbljjlbdhaaaGreatDoor
