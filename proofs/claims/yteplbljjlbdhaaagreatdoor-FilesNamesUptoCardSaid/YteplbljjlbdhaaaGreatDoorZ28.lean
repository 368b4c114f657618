/- Walks and lemmas on the program of this seat, used by its statements; each theorem bears its own conditions. -/
import Derived.Test.YteplbljjlbdhaaaGreatDoorZ2
import Derived.Test.YteplbljjlbdhaaaGreatDoorZ24
import Derived.IntWalk
namespace Go.Proofs.YteplbljjlbdhaaaGreatDoor
open Go.RowKit
set_option linter.unusedVariables false
set_option linter.unusedSimpArgs false
set_option linter.unusedSectionVars false
set_option maxHeartbeats 16000000
set_option maxRecDepth 100000
theorem plain_any (n : Nat) (w : World) : Calls Tryz.prog 67 #[.int .i32 (n : Int)] w fun e w' => e = .returned (.bool (WX.plainN n)) ∧ w = w' := by
 have h0 : (0 : Int) ≤ (n : Int) := by omega
 go_enter Tryz.func67, Tryz.ntmps67
 go_wp2
 all_goals
  go_ret
  refine ⟨ret_B ?_, rfl⟩
  rw [Bool.eq_iff_iff]
  simp [WX.plainN]
  omega
theorem rplain_any (n : Nat) (w : World) : Calls Tryz.prog 164 #[I n] w fun e w' => e = .returned (.bool (WX.plainN n)) ∧ w = w' := by
 have h0 : (0 : Int) ≤ (n : Int) := by omega
 go_enter Tryz.func164, Tryz.ntmps164
 go_wp2
 all_goals
  go_ret
  refine ⟨ret_B ?_, rfl⟩
  rw [Bool.eq_iff_iff]
  simp [WX.plainN]
  omega
theorem ris_any (n : Int) (w : World) : Calls Tryz.prog 195 #[I n] w fun e w' => e = .returned (.bool (WX.isR n)) ∧ w = w' := by
 go_enter Tryz.func195, Tryz.ntmps195
 go_wp2
 all_goals
  go_ret
  refine ⟨ret_B ?_, rfl⟩
  rw [Bool.eq_iff_iff]
  simp [WX.isR]
  omega
theorem str_new (W : World) (src dst e : TypeId) (xs : List Int) (c : Nat) (hs : Tryz.prog.underlying src = some (.slice e)) (he : Tryz.prog.underlying e = some (.int .u8)) (hd : Tryz.prog.underlying dst = some .string) (t : TypeId) :
  (convert src dst (.slice (some ⟨W.heap.size, 0, none⟩) xs.length c)).run Tryz.prog (W.alloc (.cells (xs.map (Value.int .u8)).toArray t)) = .ok (.string ⟨(xs.map fun n => UInt8.ofNat n.toNat).toArray⟩) (W.alloc (.cells (xs.map (Value.int .u8)).toArray t)) :=
 run_convert_bytes_arg _ src e hs he W.heap.size 0 xs.length c xs rfl (fun i hi => by
  rw [cell_at (heap_new W _)]
  simp [List.getD, hi]) dst hd
@[go_sem] theorem str_new1 (W : World) (a : Int) (c : Nat) (t : TypeId) : (convert 64 9 (.slice (some ⟨W.heap.size, 0, none⟩) 1 c)).run Tryz.prog (W.alloc (.cells #[.int .u8 a] t)) = .ok (S [UInt8.ofNat a.toNat]) (W.alloc (.cells #[.int .u8 a] t)) :=
 str_new W _ _ 5 [a] c Tryz.underlying64 Tryz.underlying5 Tryz.underlying9 t
@[go_sem] theorem str_new2 (W : World) (a b : Int) (c : Nat) (t : TypeId) : (convert 64 9 (.slice (some ⟨W.heap.size, 0, none⟩) 2 c)).run Tryz.prog (W.alloc (.cells #[.int .u8 a, .int .u8 b] t)) = .ok (S [UInt8.ofNat a.toNat, UInt8.ofNat b.toNat]) (W.alloc (.cells #[.int .u8 a, .int .u8 b] t)) :=
 str_new W _ _ 5 [a, b] c Tryz.underlying64 Tryz.underlying5 Tryz.underlying9 t
@[go_sem] theorem str_new3 (W : World) (a b d : Int) (c : Nat) (t : TypeId) : (convert 64 9 (.slice (some ⟨W.heap.size, 0, none⟩) 3 c)).run Tryz.prog (W.alloc (.cells #[.int .u8 a, .int .u8 b, .int .u8 d] t)) = .ok (S [UInt8.ofNat a.toNat, UInt8.ofNat b.toNat, UInt8.ofNat d.toNat]) (W.alloc (.cells #[.int .u8 a, .int .u8 b, .int .u8 d] t)) :=
 str_new W _ _ 5 [a, b, d] c Tryz.underlying64 Tryz.underlying5 Tryz.underlying9 t
@[go_sem] theorem str_new4 (W : World) (a b d f : Int) (c : Nat) (t : TypeId) : (convert 64 9 (.slice (some ⟨W.heap.size, 0, none⟩) 4 c)).run Tryz.prog (W.alloc (.cells #[.int .u8 a, .int .u8 b, .int .u8 d, .int .u8 f] t)) = .ok (S [UInt8.ofNat a.toNat, UInt8.ofNat b.toNat, UInt8.ofNat d.toNat, UInt8.ofNat f.toNat]) (W.alloc (.cells #[.int .u8 a, .int .u8 b, .int .u8 d, .int .u8 f] t)) :=
 str_new W _ _ 5 [a, b, d, f] c Tryz.underlying64 Tryz.underlying5 Tryz.underlying9 t
theorem rbytes_1 (n : Int) (w : World) (h0 : 0 ≤ n) (h1 : n < 128) : Calls Tryz.prog 196 #[I n] w fun e w' => e = .returned (S (Lib.encodeRune n)) ∧ Kept [] w w' := by
 go_enter Tryz.func196, Tryz.ntmps196
 go_wp2
 go_ret
 exact ⟨ret_S (by rw [Lib.encodeRune, Lib.encodeRuneZ_one h0 (by omega)]; rfl), (Kept.refl _ _).alloc _⟩
theorem rbytes_2 (n : Int) (w : World) (h0 : 128 ≤ n) (h1 : n < 2048) : Calls Tryz.prog 196 #[I n] w fun e w' => e = .returned (S (Lib.encodeRune n)) ∧ Kept [] w w' := by
 go_enter Tryz.func196, Tryz.ntmps196
 go_wp2
 go_ret
 exact ⟨ret_S (by rw [Lib.encodeRune, Lib.encodeRuneZ_two h0 (by omega)]; rfl), (Kept.refl _ _).alloc _⟩
theorem rbytes_3 (n : Int) (w : World) (h0 : 2048 ≤ n) (h1 : n < 65536) (hb : n < 55296 ∨ 57343 < n) : Calls Tryz.prog 196 #[I n] w fun e w' => e = .returned (S (Lib.encodeRune n)) ∧ Kept [] w w' := by
 have HB := Lib.hid hb
 clear hb
 go_enter Tryz.func196, Tryz.ntmps196
 go_wp2
 go_ret
 exact ⟨ret_S (by rw [Lib.encodeRune, Lib.encodeRuneZ_three (by have := HB.out; omega)]; rfl), (Kept.refl _ _).alloc _⟩
theorem rbytes_4 (n : Int) (w : World) (h0 : 65536 ≤ n) (h1 : n < 1114112) : Calls Tryz.prog 196 #[I n] w fun e w' => e = .returned (S (Lib.encodeRune n)) ∧ Kept [] w w' := by
 go_enter Tryz.func196, Tryz.ntmps196
 go_wp2
 go_ret
 exact ⟨ret_S (by rw [Lib.encodeRune, Lib.encodeRuneZ_four h0 (by omega)]; rfl), (Kept.refl _ _).alloc _⟩
theorem rbytes_any (n : Int) (w : World) (h : WX.isR n = true) : Calls Tryz.prog 196 #[I n] w fun e w' => e = .returned (S (Lib.encodeRune n)) ∧ Kept [] w w' := by
 simp only [WX.isR, decide_eq_true_eq] at h
 by_cases h1 : n < 128
 ·exact rbytes_1 n w (by omega) h1
 by_cases h2 : n < 2048
 ·exact rbytes_2 n w (by omega) h2
 by_cases h3 : n < 65536
 ·exact rbytes_3 n w (by omega) h3 (by omega)
 ·exact rbytes_4 n w (by omega) (by omega)
def offZ (many : Nat) : Int := if many = 2 then 192 else if many = 3 then 224 else if many = 4 then 240 else 0
def gz (l : List UInt8) (many : Nat) : Nat → Int
 | 0 => (WX.at8 l 0 : Int) - offZ many
 | j + 1 => 64 * gz l many j + WX.at8 l (j + 1) - 128
theorem gz_all (l : List UInt8) (many : Nat) (h1 : 1 ≤ many) (h4 : many ≤ 4) : gz l many (many - 1) = WX.guessZ l many := by
 have : many = 1 ∨ many = 2 ∨ many = 3 ∨ many = 4 := by omega
 rcases this with rfl | rfl | rfl | rfl <;> simp [gz, WX.guessZ, offZ]
theorem gz_bd (l : List UInt8) (many j : Nat) (h : j ≤ 3) : -134217728 ≤ gz l many j ∧ gz l many j ≤ 134217728 ∧ (j ≤ 2 → -2097152 ≤ gz l many j ∧ gz l many j ≤ 2097152) := by
 have b := WX.at8_lt l
 have o : 0 ≤ offZ many ∧ offZ many ≤ 240 := by unfold offZ; (repeat' split) <;> omega
 have g0 : -240 ≤ gz l many 0 ∧ gz l many 0 ≤ 255 := by have := b 0; simp only [gz]; omega
 have g1 : -16000 ≤ gz l many 1 ∧ gz l many 1 ≤ 17000 := by have := b 1; show _ ≤ 64 * gz l many 0 + WX.at8 l 1 - 128 ∧ 64 * gz l many 0 + WX.at8 l 1 - 128 ≤ _; omega
 have g2 : -1100000 ≤ gz l many 2 ∧ gz l many 2 ≤ 1100000 := by have := b 2; show _ ≤ 64 * gz l many 1 + WX.at8 l 2 - 128 ∧ 64 * gz l many 1 + WX.at8 l 2 - 128 ≤ _; omega
 have g3 : -71000000 ≤ gz l many 3 ∧ gz l many 3 ≤ 71000000 := by have := b 3; show _ ≤ 64 * gz l many 2 + WX.at8 l 3 - 128 ∧ 64 * gz l many 2 + WX.at8 l 3 - 128 ≤ _; omega
 have : j = 0 ∨ j = 1 ∨ j = 2 ∨ j = 3 := by omega
 rcases this with rfl | rfl | rfl | rfl <;> omega
def gzRel (l : List UInt8) (p many : Nat) (n i : Value) : Prop := ∃ k : Nat, k + 1 ≤ many ∧ i = I (k + 1 : Nat) ∧ n = I (gz (l.drop p) many k)
theorem ret_Iv {a b : Int} (h : a = b) : Value.int .i64 a = I b := by rw [h]
theorem guess_any (l : List UInt8) (p many : Nat) (w : World) (h1 : 1 ≤ many) (h4 : many ≤ 4) (hp : p + many ≤ l.length) (hl : l.length ≤ 4611686018427387904) :
  Calls Tryz.prog 194 #[S l, I p, I many] w fun e w' => e = .returned (I (WX.guessZ (l.drop p) many)) ∧ w = w' := by
 have hz := gz_all (l.drop p) many h1 h4
 have hi0 : (p : Int) < (l.length : Int) := by omega
 have hp' : (p : Int) + many ≤ l.length := by omega
 have hl' : (l.length : Int) ≤ 4611686018427387904 := by omega
 have HZ := Lib.hid hz
 have HG : Hid (gz (l.drop p) many 0 = ((byteAt l p).toNat : Int) - offZ many) := by unfold Hid; simp only [gz, WX.at8_drop, Nat.add_zero]; rfl
 have HM : Hid (many = 1 ∨ many = 2 ∨ many = 3 ∨ many = 4) := by unfold Hid; omega
 have hx : (0 : Int) ≤ (byteAt l p).toNat ∧ ((byteAt l p).toNat : Int) ≤ 255 := by have := (byteAt l p).toNat_lt; omega
 obtain ⟨hx0, hx1⟩ := hx
 clear hz
 rcases HM.out with rfl | rfl | rfl | rfl
 ·go_enter Tryz.func194, Tryz.ntmps194
  go_wp2
  have HG2 := HG.out
  simp only [offZ] at HG2
  have HG := Lib.hid HG2
  clear HG2
  go_loop [7, 8] (gzRel l p 1) (fun _ i => 8 - (intOf i).toNat)
  case atStart => exact ⟨0, by omega, rfl, ret_Iv (by rw [HG.out]; rfl)⟩
  case round =>
   obtain ⟨k, hk1, rfl, rfl⟩ := hrel
   have gb := gz_bd (l.drop p) 1 k (by omega)
   have HS : Hid (gz (l.drop p) 1 (k + 1) = 64 * gz (l.drop p) 1 k + ((byteAt l (p + (k + 1))).toNat : Int) - 128) := by
    unfold Hid; simp only [gz, WX.at8_drop]; rfl
   have hy : (0 : Int) ≤ (byteAt l (p + (k + 1))).toNat ∧ ((byteAt l (p + (k + 1))).toNat : Int) ≤ 255 := byteAt_le _ _
   obtain ⟨hy0, hy1⟩ := hy
   by_cases hlt : k + 1 < 1
   ·have hlt' : (k : Int) + 1 < 1 := by omega
    generalize hg : gz (l.drop p) 1 k = g at *
    have Hg := Lib.hid hg
    clear hg
    have gb2 := gb.2.2 (by omega)
    obtain ⟨b1, b2, _⟩ := gb
    obtain ⟨b3, b4⟩ := gb2
    go_wp2
    go_round
    case rel => exact ⟨k + 1, by omega, by go_num, ret_Iv (by rw [HS.out])⟩
    case measure => simp [intOf]; omega
   ·obtain rfl : k = 0 := by omega
    go_wp2
    go_ret
    exact ⟨ret_I HZ.out, rfl⟩
 ·go_enter Tryz.func194, Tryz.ntmps194
  go_wp2
  have HG2 := HG.out
  simp only [offZ] at HG2
  have HG := Lib.hid HG2
  clear HG2
  go_loop [7, 8] (gzRel l p 2) (fun _ i => 8 - (intOf i).toNat)
  case atStart => exact ⟨0, by omega, rfl, ret_Iv (by rw [HG.out]; rfl)⟩
  case round =>
   obtain ⟨k, hk1, rfl, rfl⟩ := hrel
   have gb := gz_bd (l.drop p) 2 k (by omega)
   have HS : Hid (gz (l.drop p) 2 (k + 1) = 64 * gz (l.drop p) 2 k + ((byteAt l (p + (k + 1))).toNat : Int) - 128) := by
    unfold Hid; simp only [gz, WX.at8_drop]; rfl
   have hy : (0 : Int) ≤ (byteAt l (p + (k + 1))).toNat ∧ ((byteAt l (p + (k + 1))).toNat : Int) ≤ 255 := byteAt_le _ _
   obtain ⟨hy0, hy1⟩ := hy
   by_cases hlt : k + 1 < 2
   ·have hlt' : (k : Int) + 1 < 2 := by omega
    generalize hg : gz (l.drop p) 2 k = g at *
    have Hg := Lib.hid hg
    clear hg
    have gb2 := gb.2.2 (by omega)
    obtain ⟨b1, b2, _⟩ := gb
    obtain ⟨b3, b4⟩ := gb2
    go_wp2
    go_round
    case rel => exact ⟨k + 1, by omega, by go_num, ret_Iv (by rw [HS.out])⟩
    case measure => simp [intOf]; omega
   ·obtain rfl : k = 1 := by omega
    go_wp2
    go_ret
    exact ⟨ret_I HZ.out, rfl⟩
 ·go_enter Tryz.func194, Tryz.ntmps194
  go_wp2
  have HG2 := HG.out
  simp only [offZ] at HG2
  have HG := Lib.hid HG2
  clear HG2
  go_loop [7, 8] (gzRel l p 3) (fun _ i => 8 - (intOf i).toNat)
  case atStart => exact ⟨0, by omega, rfl, ret_Iv (by rw [HG.out]; rfl)⟩
  case round =>
   obtain ⟨k, hk1, rfl, rfl⟩ := hrel
   have gb := gz_bd (l.drop p) 3 k (by omega)
   have HS : Hid (gz (l.drop p) 3 (k + 1) = 64 * gz (l.drop p) 3 k + ((byteAt l (p + (k + 1))).toNat : Int) - 128) := by
    unfold Hid; simp only [gz, WX.at8_drop]; rfl
   have hy : (0 : Int) ≤ (byteAt l (p + (k + 1))).toNat ∧ ((byteAt l (p + (k + 1))).toNat : Int) ≤ 255 := byteAt_le _ _
   obtain ⟨hy0, hy1⟩ := hy
   by_cases hlt : k + 1 < 3
   ·have hlt' : (k : Int) + 1 < 3 := by omega
    generalize hg : gz (l.drop p) 3 k = g at *
    have Hg := Lib.hid hg
    clear hg
    have gb2 := gb.2.2 (by omega)
    obtain ⟨b1, b2, _⟩ := gb
    obtain ⟨b3, b4⟩ := gb2
    go_wp2
    go_round
    case rel => exact ⟨k + 1, by omega, by go_num, ret_Iv (by rw [HS.out])⟩
    case measure => simp [intOf]; omega
   ·obtain rfl : k = 2 := by omega
    go_wp2
    go_ret
    exact ⟨ret_I HZ.out, rfl⟩
 ·go_enter Tryz.func194, Tryz.ntmps194
  go_wp2
  have HG2 := HG.out
  simp only [offZ] at HG2
  have HG := Lib.hid HG2
  clear HG2
  go_loop [7, 8] (gzRel l p 4) (fun _ i => 8 - (intOf i).toNat)
  case atStart => exact ⟨0, by omega, rfl, ret_Iv (by rw [HG.out]; rfl)⟩
  case round =>
   obtain ⟨k, hk1, rfl, rfl⟩ := hrel
   have gb := gz_bd (l.drop p) 4 k (by omega)
   have HS : Hid (gz (l.drop p) 4 (k + 1) = 64 * gz (l.drop p) 4 k + ((byteAt l (p + (k + 1))).toNat : Int) - 128) := by
    unfold Hid; simp only [gz, WX.at8_drop]; rfl
   have hy : (0 : Int) ≤ (byteAt l (p + (k + 1))).toNat ∧ ((byteAt l (p + (k + 1))).toNat : Int) ≤ 255 := byteAt_le _ _
   obtain ⟨hy0, hy1⟩ := hy
   by_cases hlt : k + 1 < 4
   ·have hlt' : (k : Int) + 1 < 4 := by omega
    generalize hg : gz (l.drop p) 4 k = g at *
    have Hg := Lib.hid hg
    clear hg
    have gb2 := gb.2.2 (by omega)
    obtain ⟨b1, b2, _⟩ := gb
    obtain ⟨b3, b4⟩ := gb2
    go_wp2
    go_round
    case rel => exact ⟨k + 1, by omega, by go_num, ret_Iv (by rw [HS.out])⟩
    case measure => simp [intOf]; omega
   ·obtain rfl : k = 3 := by omega
    go_wp2
    go_ret
    exact ⟨ret_I HZ.out, rfl⟩
theorem ris_at (n : Int) (w : World) (b : Bool) (h : WX.isR n = b) : Calls Tryz.prog 195 #[I n] w fun e w' => e = .returned (.bool b) ∧ w = w' := h ▸ ris_any n w
def runeF (l : List UInt8) : Nat × Nat := if WX.isOk l = true then WX.dec l else (0, 0)
theorem rrune_any (l : List UInt8) (p : Nat) (w : World) (hp : p < l.length) (hl : l.length ≤ 4611686018427387904) :
  Calls Tryz.prog 163 #[S l, I p] w fun e w' => e = .returned (.tuple #[I (runeF (l.drop p)).1, I (runeF (l.drop p)).2]) ∧ Kept [] w w' := by
 have hne : l.drop p ≠ [] := by intro e; have h2 := congrArg List.length e; rw [List.length_drop, List.length_nil] at h2; omega
 have hit := WX.hit_iff (l.drop p) hne
 have hw := WX.dec_width (l.drop p) hne
 have HH := Lib.hid (And.intro hit hw)
 have hp' : (p : Int) < l.length := by omega
 have hl' : (l.length : Int) ≤ 4611686018427387904 := by omega
 clear hit hw hne
 go_enter Tryz.func163, Tryz.ntmps163
 go_wp2
 go_loopw [6] (fun m wr => ∃ k : Nat, k ≤ 4 ∧ m = I (k + 1 : Nat) ∧ p + k ≤ l.length ∧ Kept [] w wr ∧ ¬ (WX.isOk (l.drop p) = true ∧ (WX.dec (l.drop p)).2 ≤ k)) (fun m _ => 8 - (intOf m).toNat)
 case atStart => exact ⟨0, by omega, rfl, by omega, Kept.refl _ _, by intro h; have := HH.out.2; omega⟩
 case round =>
  obtain ⟨k, hk, rfl, hpk, hkw, hno⟩ := hrel
  have HK := Lib.hid hkw
  have HNO := Lib.hid hno
  clear hkw hno
  have hpk' : (p : Int) + k ≤ l.length := by omega
  by_cases h4 : k < 4 ∧ p + k < l.length
  ·obtain ⟨h4, h5⟩ := h4
   have h4' : (k : Int) < 4 := by omega
   have h5' : (p : Int) + (k + 1) ≤ l.length := by omega
   go_wp2_with (fail)
   refine (guess_any l p (k + 1) _ (by omega) (by omega) (by omega) hl).mono ?_
   rintro e w1 ⟨rfl, rfl⟩
   have hiff := HH.out.1 (k + 1) (by omega) (by omega) (by rw [List.length_drop]; omega)
   have HI : Hid ((WX.hitB (l.drop p) (k + 1) = true) = (WX.isOk (l.drop p) = true ∧ (WX.dec (l.drop p)).2 = k + 1)) := by unfold Hid; exact propext hiff
   unfold WX.hitB at hiff
   generalize hg : WX.guessZ (l.drop p) (k + 1) = g at *
   have HG := Lib.hid hg
   clear hg
   cases hr : WX.isR g with
   | false =>
    have HR := Lib.hid hr
    clear hr hiff
    go_wp2_with (fail)
    go_quiet ((go_at_call 195; exact Calls.quiet_of_same ((ris_at g _ false HR.out).mono fun _ _ h => ⟨h.1, h.2.symm⟩)))
    go_wp2
    go_round
    case rel =>
     refine ⟨k + 1, by omega, by go_num, by omega, HK.out.drewN _, fun h => HNO.out ⟨h.1, ?_⟩⟩
     rcases Nat.lt_or_ge k (WX.dec (l.drop p)).2 with h6 | h6
     ·have h7 : WX.hitB (l.drop p) (k + 1) = true := by rw [HI.out]; exact ⟨h.1, by omega⟩
      unfold WX.hitB at h7
      rw [HG.out, HR.out] at h7
      simp at h7
     ·exact h6
    case measure => simp [intOf]; omega
   | true =>
    have HR := Lib.hid hr
    clear hr hiff
    have q1 : (p : Int) ≤ (p : Int) + ((k : Int) + 1) := by omega
    have q2 : (0 : Int) ≤ (p : Int) + ((k : Int) + 1) := by omega
    have q3 : ((p : Int) + ((k : Int) + 1)).toNat = p + (k + 1) := by omega
    have q4 : IntKind.i64.wrap ((p : Int) + ((k : Int) + 1)) = (p : Int) + ((k : Int) + 1) := IntWalk.i64_in _ (by omega)
    go_wp2_with (fail)
    go_region_with ((first | (go_at_call 195; refine (ris_at g _ true HR.out).mono ?_; rintro e w1 ⟨rfl, rfl⟩) | (go_at_call 196; refine (rbytes_any g _ HR.out).mono ?_; rintro e w1 ⟨rfl, k1⟩)))
    all_goals
     clear q1 q2 q3 q4
     have ec : (Lib.encodeRune g == List.drop p (List.take (p + (k + 1)) l)) = (Lib.encodeRune g == (l.drop p).take (k + 1)) := by rw [List.take_drop]
     cases hb : (Lib.encodeRune g == List.drop p (List.take (p + (k + 1)) l)) with
     | true =>
      have h7 : WX.hitB (l.drop p) (k + 1) = true := by
       unfold WX.hitB; rw [HG.out, HR.out, ← ec, hb]; rfl
      rw [HI.out] at h7
      have hne : l.drop p ≠ [] := by intro e; have h2 := congrArg List.length e; rw [List.length_drop, List.length_nil] at h2; omega
      have h8 := WX.guess_dec (l.drop p) hne h7.1
      rw [h7.2, HG.out] at h8
      have hf : runeF (l.drop p) = ((WX.dec (l.drop p)).1, k + 1) := by unfold runeF; rw [if_pos h7.1, ← h7.2]
      have HF := Lib.hid hf
      have H8 := Lib.hid h8
      have K1 := HK.out.drew.trans' k1
      clear ec h7 hne h8 hf
      go_wp2
      go_ret2
      refine ⟨?_, by first | exact K1 | exact K1.drew | exact HK.out.trans' k1⟩
      rw [HF.out, H8.out]; rfl
     | false =>
      have K1 := HK.out.drew.trans' k1
      have EC := Lib.hid (ec.symm.trans hb)
      clear ec
      go_wp2
      go_roundw
      case rel =>
       refine ⟨k + 1, by omega, by go_num, by omega, by first | exact K1 | exact K1.drew | exact HK.out.trans' k1, fun h => HNO.out ⟨h.1, ?_⟩⟩
       rcases Nat.lt_or_ge k (WX.dec (l.drop p)).2 with h6 | h6
       ·have h7 : WX.hitB (l.drop p) (k + 1) = true := by rw [HI.out]; exact ⟨h.1, by omega⟩
        unfold WX.hitB at h7
        rw [HG.out, HR.out, EC.out] at h7
        simp at h7
       ·exact h6
      case measure => simp [intOf]; omega
  ·have hb := HH.out.2
   rw [List.length_drop] at hb
   have hnot : ¬ WX.isOk (l.drop p) = true := fun h => HNO.out ⟨h, by omega⟩
   have hf : runeF (l.drop p) = (0, 0) := by unfold runeF; rw [if_neg hnot]
   have HF := Lib.hid hf
   clear hb hnot hf
   by_cases h5 : k < 4
   ·have h6 : decide ((p : Int) + ((k : Int) + 1) ≤ (l.length : Int)) = false := by rw [decide_eq_false_iff_not]; omega
    have h5' : (k : Int) < 4 := by omega
    clear h4
    go_wp2
    go_ret2
    exact ⟨by rw [HF.out]; rfl, HK.out⟩
   ·have h5' : ¬ (k : Int) < 4 := by omega
    clear h4
    go_wp2
    go_ret2
    exact ⟨by rw [HF.out]; rfl, HK.out⟩
end Go.Proofs.YteplbljjlbdhaaaGreatDoor
