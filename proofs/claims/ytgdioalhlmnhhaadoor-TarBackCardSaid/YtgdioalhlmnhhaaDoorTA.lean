/- Walks and lemmas on the program of this seat, used by its statements; each theorem bears its own conditions. -/
import Derived.Test.YtgdioalhlmnhhaaDoorTX
import Derived.Handy
import Derived.IntWalk
import Derived.OwnWalk
import Derived.Laws.CopyOwn
import Derived.Lib.BufferWrite
import Derived.Laws.Bits128
namespace Go.Proofs.YtgdioalhlmnhhaaDoor
open Go.RowKit
set_option linter.unusedVariables false
set_option linter.unusedSimpArgs false
/-! ### masks -/
@[go_sem] theorem i64_and7 (n : Int) : bits .and .i64 n 7 = n % 8 := by
  have h : (BitVec.ofInt 64 7).toNat = 2 ^ 3 - 1 := by decide
  have key : (BitVec.ofInt 64 n &&& BitVec.ofInt 64 7).toNat = (n % ((2 ^ 64 : Nat) : Int)).toNat % 2 ^ 3 := by
    rw [BitVec.toNat_and, BitVec.toNat_ofInt, h, Nat.and_two_pow_sub_one_eq_mod]
  show IntKind.i64.wrap ((BitVec.ofInt 64 n &&& BitVec.ofInt 64 7).toNat : Nat) = n % 8
  rw [key, IntKind.wrap_i64]
  omega
@[go_sem] theorem i64_and255 (n : Int) : bits .and .i64 n 255 = n % 256 := by
  have h : (BitVec.ofInt 64 255).toNat = 2 ^ 8 - 1 := by decide
  have key : (BitVec.ofInt 64 n &&& BitVec.ofInt 64 255).toNat = (n % ((2 ^ 64 : Nat) : Int)).toNat % 2 ^ 8 := by
    rw [BitVec.toNat_and, BitVec.toNat_ofInt, h, Nat.and_two_pow_sub_one_eq_mod]
  show IntKind.i64.wrap ((BitVec.ofInt 64 n &&& BitVec.ofInt 64 255).toNat : Nat) = n % 256
  rw [key, IntKind.wrap_i64]
  omega
@[go_sem] theorem i64_and511 (n : Int) : bits .and .i64 n 511 = n % 512 := by
  have h : (BitVec.ofInt 64 511).toNat = 2 ^ 9 - 1 := by decide
  have key : (BitVec.ofInt 64 n &&& BitVec.ofInt 64 511).toNat = (n % ((2 ^ 64 : Nat) : Int)).toNat % 2 ^ 9 := by
    rw [BitVec.toNat_and, BitVec.toNat_ofInt, h, Nat.and_two_pow_sub_one_eq_mod]
  show IntKind.i64.wrap ((BitVec.ofInt 64 n &&& BitVec.ofInt 64 511).toNat : Nat) = n % 512
  rw [key, IntKind.wrap_i64]
  omega
@[go_sem] theorem i64_and1023 (n : Int) : bits .and .i64 n 1023 = n % 1024 := by
  have h : (BitVec.ofInt 64 1023).toNat = 2 ^ 10 - 1 := by decide
  have key : (BitVec.ofInt 64 n &&& BitVec.ofInt 64 1023).toNat = (n % ((2 ^ 64 : Nat) : Int)).toNat % 2 ^ 10 := by
    rw [BitVec.toNat_and, BitVec.toNat_ofInt, h, Nat.and_two_pow_sub_one_eq_mod]
  show IntKind.i64.wrap ((BitVec.ofInt 64 n &&& BitVec.ofInt 64 1023).toNat : Nat) = n % 1024
  rw [key, IntKind.wrap_i64]
  omega
/-! ### Rows of bytes known whole: make([]byte, n), stores, copies of texts into them, string(b) -/
abbrev Row (w : World) (b : Nat) (l : List UInt8) : Prop := w.heap[b]? = some (.cells (Lib.byteCells l).toArray 5 (0, 0))
theorem byteCells_at (l : List UInt8) (i : Nat) (h : i < l.length) : (Lib.byteCells l)[i]? = some (B (byteAt l i)) := by
  simp [Lib.byteCells, h, byteAt_eq l i h]
theorem Row.cell {w : World} {b : Nat} {l : List UInt8} (h : Row w b l) (i : Nat) (hi : i < l.length) : w.cell? ⟨b, i, none⟩ = some (B (byteAt l i)) := by
  rw [cell_at h, ← Array.getElem?_toList]; exact byteCells_at l i hi
theorem Row.free {w : World} {b : Nat} {l : List UInt8} (h : Row w b l) (i : Nat) : w.frozen? ⟨b, i, none⟩ = false := free_at h i
theorem Row.set {w : World} {b : Nat} {l : List UInt8} (h : Row w b l) (i : Nat) (c : UInt8) : Row (w.setCell ⟨b, i, none⟩ (B c)) b (l.set i c) := by
  have := heap_setCell_at h i (B c)
  rw [Row, this]
  congr 2
  simp [Lib.byteCells, List.map_set]
theorem Row.kept {S : List Nat} {w w' : World} {b : Nat} {l : List UInt8} (h : Row w b l) (k : Kept S w w') (hn : b ∉ S) : Row w' b l := k.at h hn
theorem Row.lt {w : World} {b : Nat} {l : List UInt8} (h : Row w b l) : b < w.heap.size := lt_of_block h
def zerosL (n : Nat) : List UInt8 := List.replicate n 0
theorem zerosL_len (n : Nat) : (zerosL n).length = n := by simp [zerosL]
theorem byte_info : (Tryd.prog.info? 5).map (fun i => (i.zero, i.size, i.bytes)) = some (some (.int .u8 0), 1, 1) := by kernel_rfl
theorem byte_size : (Tryd.prog.info? 5).map (·.size) = some 1 := by
  have h := byte_info
  cases hq : Tryd.prog.info? 5 with
  | none => rw [hq] at h; cases h
  | some i => rw [hq] at h; simp at h ⊢; exact h.2.1
theorem madeZ (n : Nat) : madeCells #[.int .u8 0] n = (Lib.byteCells (zerosL n)).toArray := by
  apply Array.ext'
  rw [toList_madeCells_one]
  simp [Lib.byteCells, zerosL]
set_option maxRecDepth 100000 in
theorem make_bytes (w : World) (n : Nat) (h : n ≤ 1000000000) :
    (Instr.makeSlice 31 (I n) (I n)).run Tryd.prog w = .ok (.slice (some ⟨w.heap.size, 0, none⟩) n n) (w.alloc (.cells (Lib.byteCells (zerosL n)).toArray 5)) := by
  obtain ⟨i, hi, hz, hs, hb⟩ := info_parts byte_info
  have hr := run_make (P := Tryd.prog) w 31 5 i _ Tryd.underlying31 hi hz .i64 .i64 n n (by omega) (Int.le_refl _) (by rw [hb]; omega) (by omega)
  simp only [Int.toNat_natCast, hs, Nat.mul_one] at hr
  rw [hr]
  show Result.ok _ (w.alloc (.cells (madeCells #[.int .u8 0] n) 5)) = _
  rw [madeZ]
set_option maxRecDepth 100000 in
theorem conv_row {w : World} {b : Nat} {l : List UInt8} (h : Row w b l) (c : Nat) : (convert 31 9 (.slice (some ⟨b, 0, none⟩) l.length c)).run Tryd.prog w = .ok (S l) w := by
  have hr := run_convert_bytes_arg (P := Tryd.prog) w 31 5 Tryd.underlying31 Tryd.underlying5 b 0 l.length c (l.map fun c => (c.toNat : Int)) (by simp) (fun i hi => by
    rw [cell_at h, Nat.zero_add, ← Array.getElem?_toList]
    simp [Lib.byteCells, List.getD, hi]) 9 Tryd.underlying9
  rw [hr]
  have : strOfNums (l.map fun c => (c.toNat : Int)) = ⟨l.toArray⟩ := by
    unfold strOfNums; rw [List.map_map]; congr 1
    have : l.map ((fun n : Int => UInt8.ofNat n.toNat) ∘ fun c : UInt8 => (c.toNat : Int)) = l := by
      conv => rhs; rw [← List.map_id l]
      apply List.map_congr_left; intro x _; simp
    rw [this]
  rw [this]
def putL (cur : List UInt8) (o : Nat) (l : List UInt8) : List UInt8 := cur.take o ++ l ++ cur.drop (o + l.length)
theorem putL_len (cur : List UInt8) (o : Nat) (l : List UInt8) (h : o + l.length ≤ cur.length) : (putL cur o l).length = cur.length := by simp [putL]; omega
theorem setRow_kept (w : World) (g : Nat) (cs : Array Value) : Kept [g] w (w.setRow g cs) :=
  ⟨rfl, rfl, rfl, by simp [World.setRow], fun k _ hn => setRow_other w g k cs (by intro e; subst e; exact hn (by simp))⟩
theorem wpList_copy_text {w : World} {ops : Array Oper} {rest : List Oper} {o : Oper} {a : Act} {Q : Exit → Act → World → Prop} (hgd : o.guard = none) (d s : Operand)
    (ho : o.op = .call { callee := .builtin .copy, args := #[d, s], argTypes := #[31, 9] }) (g off dLen dCap : Nat) (cur l : List UInt8)
    (hd : a.eval d = .slice (some ⟨g, off, none⟩) dLen dCap) (hs : a.eval s = S l) (hg : Row w g cur) (hle : l.length ≤ dLen) (hfit : off + l.length ≤ cur.length)
    (h : ∀ w', Hid (Row w' g (putL cur off l)) → Hid (Kept [g] w w') → wpList Tryd.prog ops Q rest (a.put o.dst (goInt l.length)) w') : wpList Tryd.prog ops Q (o :: rest) a w := by
  refine wpList_plain hgd fun K hK => ?_
  have hrun := Lib.run_copy_row_string (P := Tryd.prog) w 31 9 o.type 5 g off dLen dCap ⟨l.toArray⟩ (Lib.byteCells cur).toArray 5 Tryd.underlying31 byte_size hg (by simpa [ByteArray.size] using hle) (by simpa [ByteArray.size, Lib.byteCells_length] using hfit)
  have e1 : (⟨l.toArray⟩ : ByteArray).size = l.length := by simp [ByteArray.size]
  rw [e1] at hrun
  unfold Oper.wp
  simp [execOp, ho, resolve, invoke, builtin, hd, hs, Result.andThen]
  simp [S] at hrun
  rw [hrun]
  have hnew := setRow_heap w g (Lib.byteCells cur).toArray (Lib.byteCells (putL cur off l)).toArray 5 _ hg
  have e2 : (List.take off (Lib.byteCells cur) ++ (Lib.byteCells l ++ List.drop (off + l.length) (Lib.byteCells cur))).toArray = (Lib.byteCells (putL cur off l)).toArray := by simp [putL, Lib.byteCells, List.map_take, List.map_drop]
  rw [e2]
  exact hK _ _ (h _ hnew (setRow_kept _ _ _))
theorem text_bytes (l : List UInt8) (w : World) : ∃ (c : Nat) (W : World), (convert 9 31 (S l)).run Tryd.prog w = .ok (.slice (some ⟨w.heap.size, 0, none⟩) l.length c) W ∧ Kept [] w W ∧ w.heap.size < W.heap.size ∧
    (∀ i, i < l.length → W.cell? ⟨w.heap.size, i, none⟩ = some (B (byteAt l i))) ∧ (∀ i, i < l.length → W.frozen? ⟨w.heap.size, i, none⟩ = false) := by
  have hr := run_bytes_of_string w 9 31 5 ⟨l.toArray⟩ Tryd.underlying9 Tryd.underlying31 Tryd.underlying5
  have e1 : (⟨l.toArray⟩ : ByteArray).size = l.length := by simp [ByteArray.size]
  obtain ⟨c, hc⟩ : ∃ c, grownCap w (⟨l.toArray⟩ : ByteArray).size 0 5 = c := ⟨_, rfl⟩
  rw [hc, e1] at hr
  have hlen : l.length ≤ (bytesRow ⟨l.toArray⟩ c).size := by simp [bytesRow]
  have hh : (w.drew.alloc (.cells (bytesRow ⟨l.toArray⟩ c) 5 ((bytesRow ⟨l.toArray⟩ c).size, (bytesRow ⟨l.toArray⟩ c).size + 1))).heap[w.heap.size]? = some (.cells (bytesRow ⟨l.toArray⟩ c) 5 ((bytesRow ⟨l.toArray⟩ c).size, (bytesRow ⟨l.toArray⟩ c).size + 1)) := heap_new w.drew _
  refine ⟨c, _, hr, ((Kept.refl [] w).drew).alloc _, lt_of_block hh, fun i hi => ?_, fun i hi => ?_⟩
  · have h2 := bytesRow_at ⟨l.toArray⟩ c i (by simpa using hi)
    simp only [World.cell?, hh, h2]
    rw [byteAt_eq l i hi]
    rfl
  · simp only [World.frozen?, hh]
    simp
    omega
theorem step_copy_text {ops : Array Oper} {o : Oper} {a : Act} {w : World} {K : Act → World → Prop} {Q : Exit → Act → World → Prop} {E : Prop} (hgd : o.guard = none) (d s : Operand)
    (ho : o.op = .call { callee := .builtin .copy, args := #[d, s], argTypes := #[31, 9] }) (g off dLen dCap : Nat) (cur l : List UInt8)
    (hd : a.eval d = .slice (some ⟨g, off, none⟩) dLen dCap) (hs : a.eval s = S l) (hg : Row w g cur) (hle : l.length ≤ dLen) (hfit : off + l.length ≤ cur.length)
    (h : ∀ w', Hid (Row w' g (putL cur off l)) → Hid (Kept [g] w w') → K (a.put o.dst (goInt l.length)) w') :
    if Region.wanted o (yielded ops a.tmps) = true then Oper.wp Tryd.prog o a w K Q else E := by
  have hw : Region.wanted o (yielded ops a.tmps) = true := by simp [Region.wanted, hgd]
  rw [if_pos hw]
  have hrun := Lib.run_copy_row_string (P := Tryd.prog) w 31 9 o.type 5 g off dLen dCap ⟨l.toArray⟩ (Lib.byteCells cur).toArray 5 Tryd.underlying31 byte_size hg (by simpa [ByteArray.size] using hle) (by simpa [ByteArray.size, Lib.byteCells_length] using hfit)
  have e1 : (⟨l.toArray⟩ : ByteArray).size = l.length := by simp [ByteArray.size]
  rw [e1] at hrun
  unfold Oper.wp
  simp [execOp, ho, resolve, invoke, builtin, hd, hs, Result.andThen]
  simp [S] at hrun
  rw [hrun]
  have hnew := setRow_heap w g (Lib.byteCells cur).toArray (Lib.byteCells (putL cur off l)).toArray 5 _ hg
  have e2 : (List.take off (Lib.byteCells cur) ++ (Lib.byteCells l ++ List.drop (off + l.length) (Lib.byteCells cur))).toArray = (Lib.byteCells (putL cur off l)).toArray := by simp [putL, Lib.byteCells, List.map_take, List.map_drop]
  rw [e2]
  exact h _ hnew (setRow_kept _ _ _)
/-! ### tar.sum, octal -/
theorem sum_in (l : List UInt8) (p : Nat) (h : 148 ≤ p ∧ p < 156) : TX.sumTo l (p + 1) = TX.sumTo l p + 32 := by simp [TX.sumTo, TX.term, h]
theorem sum_out (l : List UInt8) (p : Nat) (h : ¬ (148 ≤ p ∧ p < 156)) : TX.sumTo l (p + 1) = TX.sumTo l p + (byteAt l p).toNat := by simp [TX.sumTo, TX.term, h]
set_option maxHeartbeats 2000000 in
set_option maxRecDepth 100000 in
theorem tsum_any (l : List UInt8) (w : World) (hl : l.length ≤ 1000000) :
    Calls Tryd.prog 49 #[S l] w fun e w' => e = .returned (I (TX.sumTo l l.length)) ∧ w = w' := by
  have hl' : (l.length : Int) ≤ 1000000 := by omega
  go_enter Tryd.func49, Tryd.ntmps49
  go_wp2
  go_loop [3, 4, 7] (fun n i0 i => ∃ p : Nat, p ≤ l.length ∧ i = I p ∧ n = I (TX.sumTo l p)) (fun _ _ i => l.length - (intOf i).toNat)
  case atStart => exact ⟨0, by omega, rfl, rfl⟩
  case round =>
    obtain ⟨p, hp, rfl, rfl⟩ := hrel
    have hb := TX.sumTo_le l p
    obtain ⟨x, hx⟩ : ∃ x, TX.sumTo l p = x := ⟨_, rfl⟩
    rw [hx] at hb
    have hb' : (x : Int) ≤ 255000000 := by omega
    have HX := Lib.hid hx
    rw [hx]
    clear hx
    by_cases hlt : p < l.length
    · have hlt' : (p : Int) < l.length := by omega
      obtain ⟨hc0, hc1⟩ := byteAt_le l p
      by_cases hin : 148 ≤ p ∧ p < 156
      · have HN := Lib.hid (sum_in l p hin)
        have h1 : (148 : Int) ≤ p := by omega
        have h2 : (p : Int) < 156 := by omega
        go_wp2
        go_round
        case rel => exact ⟨p + 1, by omega, by go_num, by rw [HN.out, HX.out]; go_num⟩
        case measure => (simp [intOf]; omega)
      · have HN := Lib.hid (sum_out l p hin)
        by_cases h1 : 148 ≤ p
        · have h1' : (148 : Int) ≤ p := by omega
          have h2 : ¬ (p : Int) < 156 := by omega
          go_wp2
          go_round
          case rel => exact ⟨p + 1, by omega, by go_num, by rw [HN.out, HX.out]; go_num⟩
          case measure => (simp [intOf]; omega)
        · have h1' : ¬ (148 : Int) ≤ p := by omega
          go_wp2
          go_round
          case rel => exact ⟨p + 1, by omega, by go_num, by rw [HN.out, HX.out]; go_num⟩
          case measure => (simp [intOf]; omega)
    · obtain rfl : p = l.length := by omega
      go_wp2
      go_ret
      exact ⟨by rw [HX.out]; rfl, rfl⟩
theorem land7 (n : Nat) : n &&& 7 = n % 8 := Nat.and_two_pow_sub_one_eq_mod n 3
theorem shr3 (n : Nat) : n >>> 3 = n / 8 := Nat.shiftRight_eq_div_pow n 3
theorem zeros_set (m : Nat) (c : UInt8) (R : List UInt8) : (zerosL (m + 1) ++ R).set m c = zerosL m ++ c :: R := by
  have : zerosL (m + 1) = zerosL m ++ [0] := by simp [zerosL, List.replicate_succ']
  rw [this, List.append_assoc, List.set_append_right _ _ (by simp [zerosL_len]), zerosL_len]
  simp
set_option maxHeartbeats 2000000 in
set_option maxRecDepth 100000 in
theorem octal_any (n k : Nat) (w : World) (hn : n ≤ 9223372036854775807) (hk : 0 < k) (hk2 : k ≤ 1000) :
    Calls Tryd.prog 48 #[I n, I k] w fun e w' => e = .returned (S (TX.octL n k)) ∧ Kept [] w w' := by
  have hk' : (k : Int) ≤ 1000 := by omega
  have hk0 : (0 : Int) < k := by omega
  have hm := make_bytes w k (by omega)
  have H0 : Hid (Row (w.alloc (.cells (Lib.byteCells (zerosL k)).toArray 5)) w.heap.size (zerosL k)) := Lib.hid (heap_new w _)
  obtain ⟨W, hW⟩ : ∃ W, w.alloc (.cells (Lib.byteCells (zerosL k)).toArray 5) = W := ⟨_, rfl⟩
  rw [hW] at hm H0
  have K0 : Hid (Kept [] w W) := Lib.hid (hW ▸ (Kept.refl [] w).alloc _)
  clear hW
  go_enter Tryd.func48, Tryd.ntmps48
  go_wp2
  clear hm
  go_loopw [0, 6] (fun a i wr => ∃ j : Nat, j ≤ k ∧ i = I ((k : Int) - j - 1) ∧ a = I ((n / 8 ^ j : Nat) : Int) ∧ Row wr w.heap.size (zerosL (k - j) ++ TX.octL n j) ∧ Kept [] w wr) (fun _ i _ => (intOf i + 1).toNat)
  case atStart => exact ⟨0, by omega, by go_num, by simp, by simpa [TX.octL] using H0.out, K0.out⟩
  case round =>
    obtain ⟨j, hj, rfl, rfl, hrow, hkw⟩ := hrel
    have HK := Lib.hid (And.intro hrow hkw)
    have hb : wr.heap.size ≤ wr.heap.size := Nat.le_refl _
    have hlen : (zerosL (k - j) ++ TX.octL n j).length = k := by simp [zerosL_len, TX.octL_len]; omega
    rcases Nat.eq_or_lt_of_le hj with rfl | hlt
    · have hcv := conv_row hrow j
      rw [hlen] at hcv
      have hneg : ¬ (0 : Int) ≤ (j : Int) - j - 1 := by omega
      clear hrow hkw
      go_wp2
      go_ret
      exact ⟨ret_S (by simp [zerosL]), HK.out.2⟩
    · obtain ⟨m, hm⟩ : ∃ m, k - j = m + 1 := ⟨k - j - 1, by omega⟩
      have hi : (k : Int) - j - 1 = (m : Int) := by omega
      rw [hm] at hrow hlen HK
      have hmk : (m : Int) < k := by omega
      have hm0 : (0 : Int) ≤ m := by omega
      have hcell := hrow.cell m (by omega)
      have hfree := hrow.free m
      obtain ⟨x, hx⟩ : ∃ x, n / 8 ^ j = x := ⟨_, rfl⟩
      have hxl : x ≤ n := by rw [← hx]; exact Nat.div_le_self _ _
      have hx8 : x / 8 = n / 8 ^ (j + 1) := by rw [← hx, Nat.div_div_eq_div_mul, Nat.pow_succ]
      have hst : Hid (Row (wr.setCell ⟨w.heap.size, m, none⟩ (B (TX.dig x))) w.heap.size (zerosL m ++ TX.octL n (j + 1))) := Lib.hid (by
        have := hrow.set m (TX.dig x)
        rw [zeros_set] at this
        rw [TX.octL_front, hx]; exact this)
      have hkp : Hid (Kept [] w (wr.setCell ⟨w.heap.size, m, none⟩ (B (TX.dig x)))) := Lib.hid (hkw.setCell (.inr (Nat.le_refl _)) _)
      have hdg : (48 : Int) + ((x % 8 : Nat) : Int) = ((TX.dig x).toNat : Int) := by rw [TX.dig_toNat]; omega
      obtain ⟨c, hc⟩ : ∃ c, TX.dig x = c := ⟨_, rfl⟩
      rw [hc] at hst hkp hdg
      rw [hx, hi]
      have HX := Lib.hid (And.intro hx8 hx)
      obtain ⟨v0, hv0⟩ : ∃ v0, B (byteAt (zerosL (m + 1) ++ TX.octL n j) m) = v0 := ⟨_, rfl⟩
      rw [hv0] at hcell
      have HD : Hid ((48 : Int) + (x : Int) % 8 = (c.toNat : Int)) := Lib.hid (by omega)
      clear hrow hkw hv0 hx8 hx hdg
      go_wp2
      rw [HD.out]
      go_roundw
      case rel => exact ⟨j + 1, by omega, by go_num, by rw [← HX.out.1]; go_num, by rw [show k - (j + 1) = m by omega]; exact hst.out, hkp.out⟩
      case measure => simp [intOf]
/-! ### the reference's octal, sum, number -/
theorem conv1 (w : World) (c : UInt8) :
    (convert 31 9 (.slice (some ⟨w.heap.size, 0, none⟩) 1 1)).run Tryd.prog (w.alloc (.cells #[.int .u8 (c.toNat : Int)] 5)) = .ok (S [c]) (w.alloc (.cells #[.int .u8 (c.toNat : Int)] 5)) :=
  conv_row (l := [c]) (heap_new w _) 1
set_option maxHeartbeats 2000000 in
set_option maxRecDepth 100000 in
theorem roctal_any (n k : Nat) (w : World) (hn : n ≤ 9223372036854775807) (hk : k ≤ 1000) :
    Calls Tryd.prog 50 #[I n, I k] w fun e w' => e = .returned (S (TX.octL n k)) ∧ Kept [] w w' := by
  go_enter Tryd.func50, Tryd.ntmps50
  go_wp2
  go_loopw [0, 5, 6] (fun a s i wr => ∃ (j : Nat), a = I ((n / 8 ^ j : Nat) : Int) ∧ s = S (TX.octL n j) ∧ i = I j ∧ j ≤ k ∧ Kept [] w wr) (fun _ _ i _ => k - (intOf i).toNat)
  case atStart => exact ⟨0, by simp, rfl, rfl, by omega, Kept.refl _ _⟩
  case round =>
    obtain ⟨j, rfl, rfl, rfl, hj, hk'⟩ := hrel
    have HK := Lib.hid hk'
    clear hk'
    rcases Nat.eq_or_lt_of_le hj with rfl | hlt
    · go_wp2
      go_ret
      exact ⟨rfl, HK.out⟩
    · have hlt' : (j : Int) < k := by omega
      obtain ⟨x, hx⟩ : ∃ x, n / 8 ^ j = x := ⟨_, rfl⟩
      have hxl : x ≤ n := by rw [← hx]; exact Nat.div_le_self _ _
      have HX : Hid (x / 8 = n / 8 ^ (j + 1)) := Lib.hid (by rw [← hx, Nat.div_div_eq_div_mul, Nat.pow_succ])
      have HO : Hid (TX.octL n (j + 1) = [TX.dig x] ++ TX.octL n j) := Lib.hid (by rw [TX.octL_front, hx]; rfl)
      obtain ⟨c, hc⟩ : ∃ c, TX.dig x = c := ⟨_, rfl⟩
      have hb : (48 : Int) + (x : Int) % 8 = (c.toNat : Int) := by rw [← hc, TX.dig_toNat]; omega
      rw [hc] at HO
      rw [hx]
      have hcv := conv1 wr c
      have hl1 : 1 + (TX.octL n j).length ≤ 9223372036854775807 := by rw [TX.octL_len]; omega
      clear hc hx
      go_wp2
      go_roundw
      case rel => exact ⟨j + 1, by rw [← HX.out]; go_num, by rw [HO.out]; rfl, by go_num, by omega, HK.out.alloc _⟩
      case measure => (simp [intOf]; omega)
set_option maxHeartbeats 2000000 in
set_option maxRecDepth 100000 in
theorem rsum_any (l : List UInt8) (b c : Nat) (w : World) (hl : l.length = 512) (hrow : ∀ i, i < 512 → w.cell? ⟨b, i, none⟩ = some (B (byteAt l i))) :
    Calls Tryd.prog 51 #[.slice (some ⟨b, 0, none⟩) 512 c] w fun e w' => e = .returned (I (TX.sumTo l 512)) ∧ w = w' := by
  have HR := Lib.hid hrow
  clear hrow
  go_enter Tryd.func51, Tryd.ntmps51
  go_wp2
  go_loop [3, 4] (fun n i => ∃ p : Nat, p ≤ 512 ∧ i = I p ∧ n = I (TX.sumTo l p)) (fun _ i => 512 - (intOf i).toNat)
  case atStart => exact ⟨0, by omega, rfl, rfl⟩
  case round =>
    obtain ⟨p, hp, rfl, rfl⟩ := hrel
    have hb := TX.sumTo_le l p
    obtain ⟨x, hx⟩ : ∃ x, TX.sumTo l p = x := ⟨_, rfl⟩
    rw [hx] at hb
    have hb' : (x : Int) ≤ 255000000 := by omega
    have HX := Lib.hid hx
    rw [hx]
    clear hx
    by_cases hlt : p < 512
    · have hlt' : (p : Int) < 512 := by omega
      obtain ⟨hc0, hc1⟩ := byteAt_le l p
      have hcell := HR.out p hlt
      by_cases hin : 148 ≤ p ∧ p < 156
      · have HN := Lib.hid (sum_in l p hin)
        have h1 : (148 : Int) ≤ p := by omega
        have h2 : (p : Int) ≤ 155 := by omega
        go_wp2
        go_round
        case rel => exact ⟨p + 1, by omega, by go_num, by rw [HN.out, HX.out]; go_num⟩
        case measure => (simp [intOf]; omega)
      · have HN := Lib.hid (sum_out l p hin)
        by_cases h1 : 148 ≤ p
        · have h1' : (148 : Int) ≤ p := by omega
          have h2 : ¬ (p : Int) ≤ 155 := by omega
          go_wp2
          go_round
          case rel => exact ⟨p + 1, by omega, by go_num, by rw [HN.out, HX.out]; go_num⟩
          case measure => (simp [intOf]; omega)
        · have h1' : ¬ (148 : Int) ≤ p := by omega
          go_wp2
          go_round
          case rel => exact ⟨p + 1, by omega, by go_num, by rw [HN.out, HX.out]; go_num⟩
          case measure => (simp [intOf]; omega)
    · obtain rfl : p = 512 := by omega
      go_wp2
      go_ret
      exact ⟨by rw [HX.out]; rfl, rfl⟩
/-- A number's digits: what a step of the loop knows. -/
theorem octB (c : UInt8) : TX.isOct c = true ↔ 48 ≤ (c.toNat : Int) ∧ (c.toNat : Int) ≤ 55 := by
  simp only [TX.isOct, decide_eq_true_eq]; omega
theorem octB' (c : UInt8) : TX.isOct c = false ↔ ¬ 48 ≤ (c.toNat : Int) ∨ ¬ (c.toNat : Int) ≤ 55 := by
  simp only [TX.isOct, decide_eq_false_iff_not]; omega
end Go.Proofs.YtgdioalhlmnhhaaDoor
