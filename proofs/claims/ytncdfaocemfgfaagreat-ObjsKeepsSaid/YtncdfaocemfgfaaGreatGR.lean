/- Walks and lemmas on the program of this seat, used by its statements; each theorem bears its own conditions. -/
import Derived.Test.YtncdfaocemfgfaaGreatGen
import Derived.Handy
import Derived.OwnWalk
import Derived.Deep.AppendLies
import Derived.Laws.CopyOwn
import Derived.Lib.BufferWrite
import Derived.Laws.Bits128
namespace Go.Proofs.YtncdfaocemfgfaaGreat
open Go.RowKit
set_option linter.unusedVariables false
set_option linter.unusedSimpArgs false
/-! ### Rows of bytes known whole: make([]byte, n), stores, copies of texts into them, string(b) -/
abbrev Row (w : World) (b : Nat) (l : List UInt8) : Prop := w.heap[b]? = some (.cells (Lib.byteCells l).toArray 5 (0, 0))
theorem byteCells_at (l : List UInt8) (i : Nat) (h : i < l.length) : (Lib.byteCells l)[i]? = some (B (byteAt l i)) := by
  simp [Lib.byteCells, h, byteAt_eq l i h]
theorem Row.cell {w : World} {b : Nat} {l : List UInt8} (h : Row w b l) (i : Nat) (hi : i < l.length) : w.cell? ⟨b, i, none⟩ = some (B (byteAt l i)) := by
  rw [cell_at h, ← Array.getElem?_toList]; exact byteCells_at l i hi
theorem Row.free {w : World} {b : Nat} {l : List UInt8} (h : Row w b l) (i : Nat) : w.frozen? ⟨b, i, none⟩ = false := free_at h i
theorem Row.set {w : World} {b : Nat} {l : List UInt8} (h : Row w b l) (i : Nat) (c : UInt8) : Row (w.setCell ⟨b, i, none⟩ (B c)) b (l.set i c) := by
  have := heap_setCell_at h i (B c)
  rw [Row, this]
  congr 2
  simp [Lib.byteCells, List.map_set]
theorem Row.kept {S : List Nat} {w w' : World} {b : Nat} {l : List UInt8} (h : Row w b l) (k : Kept S w w') (hn : b ∉ S) : Row w' b l := k.at h hn
theorem Row.lt {w : World} {b : Nat} {l : List UInt8} (h : Row w b l) : b < w.heap.size := lt_of_block h
def zerosL (n : Nat) : List UInt8 := List.replicate n 0
theorem zerosL_len (n : Nat) : (zerosL n).length = n := by simp [zerosL]
theorem byte_info : (Tryz.prog.info? 5).map (fun i => (i.zero, i.size, i.bytes)) = some (some (.int .u8 0), 1, 1) := by kernel_rfl
theorem byte_size : (Tryz.prog.info? 5).map (·.size) = some 1 := by
  have h := byte_info
  cases hq : Tryz.prog.info? 5 with
  | none => rw [hq] at h; cases h
  | some i => rw [hq] at h; simp at h ⊢; exact h.2.1
theorem madeZ (n : Nat) : madeCells #[.int .u8 0] n = (Lib.byteCells (zerosL n)).toArray := by
  apply Array.ext'
  rw [toList_madeCells_one]
  simp [Lib.byteCells, zerosL]
set_option maxRecDepth 100000 in
theorem make_bytes (w : World) (n : Nat) (h : n ≤ 1000000000) :
    (Instr.makeSlice 64 (I n) (I n)).run Tryz.prog w = .ok (.slice (some ⟨w.heap.size, 0, none⟩) n n) (w.alloc (.cells (Lib.byteCells (zerosL n)).toArray 5)) := by
  obtain ⟨i, hi, hz, hs, hb⟩ := info_parts byte_info
  have hr := run_make (P := Tryz.prog) w 64 5 i _ Tryz.underlying64 hi hz .i64 .i64 n n (by omega) (Int.le_refl _) (by rw [hb]; omega) (by omega)
  simp only [Int.toNat_natCast, hs, Nat.mul_one] at hr
  rw [hr]
  show Result.ok _ (w.alloc (.cells (madeCells #[.int .u8 0] n) 5)) = _
  rw [madeZ]
set_option maxRecDepth 100000 in
theorem conv_row {w : World} {b : Nat} {l : List UInt8} (h : Row w b l) (c : Nat) : (convert 64 9 (.slice (some ⟨b, 0, none⟩) l.length c)).run Tryz.prog w = .ok (S l) w := by
  have hr := run_convert_bytes_arg (P := Tryz.prog) w 64 5 Tryz.underlying64 Tryz.underlying5 b 0 l.length c (l.map fun c => (c.toNat : Int)) (by simp) (fun i hi => by
    rw [cell_at h, Nat.zero_add, ← Array.getElem?_toList]
    simp [Lib.byteCells, List.getD, hi]) 9 Tryz.underlying9
  rw [hr]
  have : strOfNums (l.map fun c => (c.toNat : Int)) = ⟨l.toArray⟩ := by
    unfold strOfNums; rw [List.map_map]; congr 1
    have : l.map ((fun n : Int => UInt8.ofNat n.toNat) ∘ fun c : UInt8 => (c.toNat : Int)) = l := by
      conv => rhs; rw [← List.map_id l]
      apply List.map_congr_left; intro x _; simp
    rw [this]
  rw [this]
def putL (cur : List UInt8) (o : Nat) (l : List UInt8) : List UInt8 := cur.take o ++ l ++ cur.drop (o + l.length)
theorem putL_len (cur : List UInt8) (o : Nat) (l : List UInt8) (h : o + l.length ≤ cur.length) : (putL cur o l).length = cur.length := by simp [putL]; omega
theorem setRow_kept (w : World) (g : Nat) (cs : Array Value) : Kept [g] w (w.setRow g cs) :=
  ⟨rfl, rfl, rfl, by simp [World.setRow], fun k _ hn => setRow_other w g k cs (by intro e; subst e; exact hn (by simp))⟩
theorem wpList_copy_text {w : World} {ops : Array Oper} {rest : List Oper} {o : Oper} {a : Act} {Q : Exit → Act → World → Prop} (hgd : o.guard = none) (d s : Operand)
    (ho : o.op = .call { callee := .builtin .copy, args := #[d, s], argTypes := #[64, 9] }) (g off dLen dCap : Nat) (cur l : List UInt8)
    (hd : a.eval d = .slice (some ⟨g, off, none⟩) dLen dCap) (hs : a.eval s = S l) (hg : Row w g cur) (hle : l.length ≤ dLen) (hfit : off + l.length ≤ cur.length)
    (h : ∀ w', Hid (Row w' g (putL cur off l)) → Hid (Kept [g] w w') → wpList Tryz.prog ops Q rest (a.put o.dst (goInt l.length)) w') : wpList Tryz.prog ops Q (o :: rest) a w := by
  refine wpList_plain hgd fun K hK => ?_
  have hrun := Lib.run_copy_row_string (P := Tryz.prog) w 64 9 o.type 5 g off dLen dCap ⟨l.toArray⟩ (Lib.byteCells cur).toArray 5 Tryz.underlying64 byte_size hg (by simpa [ByteArray.size] using hle) (by simpa [ByteArray.size, Lib.byteCells_length] using hfit)
  have e1 : (⟨l.toArray⟩ : ByteArray).size = l.length := by simp [ByteArray.size]
  rw [e1] at hrun
  unfold Oper.wp
  simp [execOp, ho, resolve, invoke, builtin, hd, hs, Result.andThen]
  simp [S] at hrun
  rw [hrun]
  have hnew := setRow_heap w g (Lib.byteCells cur).toArray (Lib.byteCells (putL cur off l)).toArray 5 _ hg
  have e2 : (List.take off (Lib.byteCells cur) ++ (Lib.byteCells l ++ List.drop (off + l.length) (Lib.byteCells cur))).toArray = (Lib.byteCells (putL cur off l)).toArray := by simp [putL, Lib.byteCells, List.map_take, List.map_drop]
  rw [e2]
  exact hK _ _ (h _ hnew (setRow_kept _ _ _))
theorem text_bytes (l : List UInt8) (w : World) : ∃ (c : Nat) (W : World), (convert 9 64 (S l)).run Tryz.prog w = .ok (.slice (some ⟨w.heap.size, 0, none⟩) l.length c) W ∧ Kept [] w W ∧ w.heap.size < W.heap.size ∧
    (∀ i, i < l.length → W.cell? ⟨w.heap.size, i, none⟩ = some (B (byteAt l i))) ∧ (∀ i, i < l.length → W.frozen? ⟨w.heap.size, i, none⟩ = false) := by
  have hr := run_bytes_of_string w 9 64 5 ⟨l.toArray⟩ Tryz.underlying9 Tryz.underlying64 Tryz.underlying5
  have e1 : (⟨l.toArray⟩ : ByteArray).size = l.length := by simp [ByteArray.size]
  obtain ⟨c, hc⟩ : ∃ c, grownCap w (⟨l.toArray⟩ : ByteArray).size 0 5 = c := ⟨_, rfl⟩
  rw [hc, e1] at hr
  have hlen : l.length ≤ (bytesRow ⟨l.toArray⟩ c).size := by simp [bytesRow]
  have hh : (w.drew.alloc (.cells (bytesRow ⟨l.toArray⟩ c) 5 ((bytesRow ⟨l.toArray⟩ c).size, (bytesRow ⟨l.toArray⟩ c).size + 1))).heap[w.heap.size]? = some (.cells (bytesRow ⟨l.toArray⟩ c) 5 ((bytesRow ⟨l.toArray⟩ c).size, (bytesRow ⟨l.toArray⟩ c).size + 1)) := heap_new w.drew _
  refine ⟨c, _, hr, ((Kept.refl [] w).drew).alloc _, lt_of_block hh, fun i hi => ?_, fun i hi => ?_⟩
  · have h2 := bytesRow_at ⟨l.toArray⟩ c i (by simpa using hi)
    simp only [World.cell?, hh, h2]
    rw [byteAt_eq l i hi]
    rfl
  · simp only [World.frozen?, hh]
    simp
    omega
theorem step_copy_text {ops : Array Oper} {o : Oper} {a : Act} {w : World} {K : Act → World → Prop} {Q : Exit → Act → World → Prop} {E : Prop} (hgd : o.guard = none) (d s : Operand)
    (ho : o.op = .call { callee := .builtin .copy, args := #[d, s], argTypes := #[64, 9] }) (g off dLen dCap : Nat) (cur l : List UInt8)
    (hd : a.eval d = .slice (some ⟨g, off, none⟩) dLen dCap) (hs : a.eval s = S l) (hg : Row w g cur) (hle : l.length ≤ dLen) (hfit : off + l.length ≤ cur.length)
    (h : ∀ w', Hid (Row w' g (putL cur off l)) → Hid (Kept [g] w w') → K (a.put o.dst (goInt l.length)) w') :
    if Region.wanted o (yielded ops a.tmps) = true then Oper.wp Tryz.prog o a w K Q else E := by
  have hw : Region.wanted o (yielded ops a.tmps) = true := by simp [Region.wanted, hgd]
  rw [if_pos hw]
  have hrun := Lib.run_copy_row_string (P := Tryz.prog) w 64 9 o.type 5 g off dLen dCap ⟨l.toArray⟩ (Lib.byteCells cur).toArray 5 Tryz.underlying64 byte_size hg (by simpa [ByteArray.size] using hle) (by simpa [ByteArray.size, Lib.byteCells_length] using hfit)
  have e1 : (⟨l.toArray⟩ : ByteArray).size = l.length := by simp [ByteArray.size]
  rw [e1] at hrun
  unfold Oper.wp
  simp [execOp, ho, resolve, invoke, builtin, hd, hs, Result.andThen]
  simp [S] at hrun
  rw [hrun]
  have hnew := setRow_heap w g (Lib.byteCells cur).toArray (Lib.byteCells (putL cur off l)).toArray 5 _ hg
  have e2 : (List.take off (Lib.byteCells cur) ++ (Lib.byteCells l ++ List.drop (off + l.length) (Lib.byteCells cur))).toArray = (Lib.byteCells (putL cur off l)).toArray := by simp [putL, Lib.byteCells, List.map_take, List.map_drop]
  rw [e2]
  exact h _ hnew (setRow_kept _ _ _)
end Go.Proofs.YtncdfaocemfgfaaGreat
