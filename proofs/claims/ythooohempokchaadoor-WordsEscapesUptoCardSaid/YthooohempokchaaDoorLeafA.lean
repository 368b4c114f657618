/- Walks and lemmas on the program of this seat, used by its statements; each theorem bears its own conditions. -/
import Derived.Test.YthooohempokchaaDoorGen
namespace Go.Proofs.YthooohempokchaaDoor
open Go.RowKit
set_option linter.unusedVariables false
set_option linter.unusedSimpArgs false
set_option maxRecDepth 100000 in
set_option maxHeartbeats 400000 in
theorem plain_any (n : Nat) (w : World) : Calls Tryd.prog 26 #[.int .i32 (n : Int)] w fun e w' => e = .returned (.bool (WX.plainN n)) ∧ w = w' := by
  have h0 : (0 : Int) ≤ (n : Int) := by omega
  go_enter Tryd.func26, Tryd.ntmps26
  go_wp2
  all_goals
    go_ret
    refine ⟨ret_B ?_, rfl⟩
    rw [Bool.eq_iff_iff]
    simp [WX.plainN]
    omega
set_option maxRecDepth 100000 in
set_option maxHeartbeats 400000 in
theorem rplain_any (n : Nat) (w : World) : Calls Tryd.prog 27 #[I n] w fun e w' => e = .returned (.bool (WX.plainN n)) ∧ w = w' := by
  have h0 : (0 : Int) ≤ (n : Int) := by omega
  go_enter Tryd.func27, Tryd.ntmps27
  go_wp2
  all_goals
    go_ret
    refine ⟨ret_B ?_, rfl⟩
    rw [Bool.eq_iff_iff]
    simp [WX.plainN]
    omega
set_option maxRecDepth 100000 in
set_option maxHeartbeats 400000 in
theorem ris_any (n : Int) (w : World) : Calls Tryd.prog 43 #[I n] w fun e w' => e = .returned (.bool (WX.isR n)) ∧ w = w' := by
  go_enter Tryd.func43, Tryd.ntmps43
  go_wp2
  all_goals
    go_ret
    refine ⟨ret_B ?_, rfl⟩
    rw [Bool.eq_iff_iff]
    simp [WX.isR]
    omega
theorem str_new (W : World) (src dst e : TypeId) (xs : List Int) (c : Nat) (hs : Tryd.prog.underlying src = some (.slice e)) (he : Tryd.prog.underlying e = some (.int .u8)) (hd : Tryd.prog.underlying dst = some .string) (t : TypeId) :
    (convert src dst (.slice (some ⟨W.heap.size, 0, none⟩) xs.length c)).run Tryd.prog (W.alloc (.cells (xs.map (Value.int .u8)).toArray t)) = .ok (.string ⟨(xs.map fun n => UInt8.ofNat n.toNat).toArray⟩) (W.alloc (.cells (xs.map (Value.int .u8)).toArray t)) :=
  run_convert_bytes_arg _ src e hs he W.heap.size 0 xs.length c xs rfl (fun i hi => by
    rw [cell_at (heap_new W _)]
    simp [List.getD, hi]) dst hd
@[go_sem] theorem str_new1 (W : World) (a : Int) (c : Nat) (t : TypeId) : (convert 45 9 (.slice (some ⟨W.heap.size, 0, none⟩) 1 c)).run Tryd.prog (W.alloc (.cells #[.int .u8 a] t)) = .ok (S [UInt8.ofNat a.toNat]) (W.alloc (.cells #[.int .u8 a] t)) :=
  str_new W _ _ 5 [a] c Tryd.underlying45 Tryd.underlying5 Tryd.underlying9 t
@[go_sem] theorem str_new2 (W : World) (a b : Int) (c : Nat) (t : TypeId) : (convert 45 9 (.slice (some ⟨W.heap.size, 0, none⟩) 2 c)).run Tryd.prog (W.alloc (.cells #[.int .u8 a, .int .u8 b] t)) = .ok (S [UInt8.ofNat a.toNat, UInt8.ofNat b.toNat]) (W.alloc (.cells #[.int .u8 a, .int .u8 b] t)) :=
  str_new W _ _ 5 [a, b] c Tryd.underlying45 Tryd.underlying5 Tryd.underlying9 t
@[go_sem] theorem str_new3 (W : World) (a b d : Int) (c : Nat) (t : TypeId) : (convert 45 9 (.slice (some ⟨W.heap.size, 0, none⟩) 3 c)).run Tryd.prog (W.alloc (.cells #[.int .u8 a, .int .u8 b, .int .u8 d] t)) = .ok (S [UInt8.ofNat a.toNat, UInt8.ofNat b.toNat, UInt8.ofNat d.toNat]) (W.alloc (.cells #[.int .u8 a, .int .u8 b, .int .u8 d] t)) :=
  str_new W _ _ 5 [a, b, d] c Tryd.underlying45 Tryd.underlying5 Tryd.underlying9 t
@[go_sem] theorem str_new4 (W : World) (a b d f : Int) (c : Nat) (t : TypeId) : (convert 45 9 (.slice (some ⟨W.heap.size, 0, none⟩) 4 c)).run Tryd.prog (W.alloc (.cells #[.int .u8 a, .int .u8 b, .int .u8 d, .int .u8 f] t)) = .ok (S [UInt8.ofNat a.toNat, UInt8.ofNat b.toNat, UInt8.ofNat d.toNat, UInt8.ofNat f.toNat]) (W.alloc (.cells #[.int .u8 a, .int .u8 b, .int .u8 d, .int .u8 f] t)) :=
  str_new W _ _ 5 [a, b, d, f] c Tryd.underlying45 Tryd.underlying5 Tryd.underlying9 t
set_option maxRecDepth 100000 in
set_option maxHeartbeats 1000000 in
theorem rbytes_1 (n : Int) (w : World) (h0 : 0 ≤ n) (h1 : n < 128) : Calls Tryd.prog 44 #[I n] w fun e w' => e = .returned (S (Lib.encodeRune n)) ∧ Kept [] w w' := by
  go_enter Tryd.func44, Tryd.ntmps44
  go_wp2
  go_ret
  exact ⟨ret_S (by rw [Lib.encodeRune, Lib.encodeRuneZ_one h0 (by omega)]; rfl), (Kept.refl _ _).alloc _⟩
set_option maxRecDepth 100000 in
set_option maxHeartbeats 1000000 in
theorem rbytes_2 (n : Int) (w : World) (h0 : 128 ≤ n) (h1 : n < 2048) : Calls Tryd.prog 44 #[I n] w fun e w' => e = .returned (S (Lib.encodeRune n)) ∧ Kept [] w w' := by
  go_enter Tryd.func44, Tryd.ntmps44
  go_wp2
  go_ret
  exact ⟨ret_S (by rw [Lib.encodeRune, Lib.encodeRuneZ_two h0 (by omega)]; rfl), (Kept.refl _ _).alloc _⟩
set_option maxRecDepth 100000 in
set_option maxHeartbeats 1000000 in
theorem rbytes_3 (n : Int) (w : World) (h0 : 2048 ≤ n) (h1 : n < 65536) (hb : n < 55296 ∨ 57343 < n) : Calls Tryd.prog 44 #[I n] w fun e w' => e = .returned (S (Lib.encodeRune n)) ∧ Kept [] w w' := by
  have HB := Lib.hid hb
  clear hb
  go_enter Tryd.func44, Tryd.ntmps44
  go_wp2
  go_ret
  exact ⟨ret_S (by rw [Lib.encodeRune, Lib.encodeRuneZ_three (by have := HB.out; omega)]; rfl), (Kept.refl _ _).alloc _⟩
set_option maxRecDepth 100000 in
set_option maxHeartbeats 1000000 in
theorem rbytes_4 (n : Int) (w : World) (h0 : 65536 ≤ n) (h1 : n < 1114112) : Calls Tryd.prog 44 #[I n] w fun e w' => e = .returned (S (Lib.encodeRune n)) ∧ Kept [] w w' := by
  go_enter Tryd.func44, Tryd.ntmps44
  go_wp2
  go_ret
  exact ⟨ret_S (by rw [Lib.encodeRune, Lib.encodeRuneZ_four h0 (by omega)]; rfl), (Kept.refl _ _).alloc _⟩
theorem rbytes_any (n : Int) (w : World) (h : WX.isR n = true) : Calls Tryd.prog 44 #[I n] w fun e w' => e = .returned (S (Lib.encodeRune n)) ∧ Kept [] w w' := by
  simp only [WX.isR, decide_eq_true_eq] at h
  by_cases h1 : n < 128
  · exact rbytes_1 n w (by omega) h1
  by_cases h2 : n < 2048
  · exact rbytes_2 n w (by omega) h2
  by_cases h3 : n < 65536
  · exact rbytes_3 n w (by omega) h3 (by omega)
  · exact rbytes_4 n w (by omega) (by omega)
/-! ### guess -/
def offZ (many : Nat) : Int := if many = 2 then 192 else if many = 3 then 224 else if many = 4 then 240 else 0
def gz (l : List UInt8) (many : Nat) : Nat → Int
  | 0 => (WX.at8 l 0 : Int) - offZ many
  | j + 1 => 64 * gz l many j + WX.at8 l (j + 1) - 128
theorem gz_all (l : List UInt8) (many : Nat) (h1 : 1 ≤ many) (h4 : many ≤ 4) : gz l many (many - 1) = WX.guessZ l many := by
  have : many = 1 ∨ many = 2 ∨ many = 3 ∨ many = 4 := by omega
  rcases this with rfl | rfl | rfl | rfl <;> simp [gz, WX.guessZ, offZ]
theorem gz_bd (l : List UInt8) (many j : Nat) (h : j ≤ 3) : -134217728 ≤ gz l many j ∧ gz l many j ≤ 134217728 ∧ (j ≤ 2 → -2097152 ≤ gz l many j ∧ gz l many j ≤ 2097152) := by
  have b := WX.at8_lt l
  have o : 0 ≤ offZ many ∧ offZ many ≤ 240 := by unfold offZ; (repeat' split) <;> omega
  have g0 : -240 ≤ gz l many 0 ∧ gz l many 0 ≤ 255 := by have := b 0; simp only [gz]; omega
  have g1 : -16000 ≤ gz l many 1 ∧ gz l many 1 ≤ 17000 := by have := b 1; show _ ≤ 64 * gz l many 0 + WX.at8 l 1 - 128 ∧ 64 * gz l many 0 + WX.at8 l 1 - 128 ≤ _; omega
  have g2 : -1100000 ≤ gz l many 2 ∧ gz l many 2 ≤ 1100000 := by have := b 2; show _ ≤ 64 * gz l many 1 + WX.at8 l 2 - 128 ∧ 64 * gz l many 1 + WX.at8 l 2 - 128 ≤ _; omega
  have g3 : -71000000 ≤ gz l many 3 ∧ gz l many 3 ≤ 71000000 := by have := b 3; show _ ≤ 64 * gz l many 2 + WX.at8 l 3 - 128 ∧ 64 * gz l many 2 + WX.at8 l 3 - 128 ≤ _; omega
  have : j = 0 ∨ j = 1 ∨ j = 2 ∨ j = 3 := by omega
  rcases this with rfl | rfl | rfl | rfl <;> omega
def gzRel (l : List UInt8) (p many : Nat) (n i : Value) : Prop := ∃ k : Nat, k + 1 ≤ many ∧ i = I (k + 1 : Nat) ∧ n = I (gz (l.drop p) many k)
theorem ret_Iv {a b : Int} (h : a = b) : Value.int .i64 a = I b := by rw [h]
set_option maxRecDepth 100000 in
set_option maxHeartbeats 1000000 in
theorem guess_any (l : List UInt8) (p many : Nat) (w : World) (h1 : 1 ≤ many) (h4 : many ≤ 4) (hp : p + many ≤ l.length) (hl : l.length ≤ 4611686018427387904) :
    Calls Tryd.prog 42 #[S l, I p, I many] w fun e w' => e = .returned (I (WX.guessZ (l.drop p) many)) ∧ w = w' := by
  have hz := gz_all (l.drop p) many h1 h4
  have hi0 : (p : Int) < (l.length : Int) := by omega
  have hp' : (p : Int) + many ≤ l.length := by omega
  have hl' : (l.length : Int) ≤ 4611686018427387904 := by omega
  have HZ := Lib.hid hz
  have HG : Hid (gz (l.drop p) many 0 = ((byteAt l p).toNat : Int) - offZ many) := by unfold Hid; simp only [gz, WX.at8_drop, Nat.add_zero]; rfl
  have HM : Hid (many = 1 ∨ many = 2 ∨ many = 3 ∨ many = 4) := by unfold Hid; omega
  have hx : (0 : Int) ≤ (byteAt l p).toNat ∧ ((byteAt l p).toNat : Int) ≤ 255 := by have := (byteAt l p).toNat_lt; omega
  obtain ⟨hx0, hx1⟩ := hx
  clear hz
  rcases HM.out with rfl | rfl | rfl | rfl
  · go_enter Tryd.func42, Tryd.ntmps42
    go_wp2
    have HG2 := HG.out
    simp only [offZ] at HG2
    have HG := Lib.hid HG2
    clear HG2
    go_loop [7, 8] (gzRel l p 1) (fun _ i => 8 - (intOf i).toNat)
    case atStart => exact ⟨0, by omega, rfl, ret_Iv (by rw [HG.out]; rfl)⟩
    case round =>
      obtain ⟨k, hk1, rfl, rfl⟩ := hrel
      have gb := gz_bd (l.drop p) 1 k (by omega)
      have HS : Hid (gz (l.drop p) 1 (k + 1) = 64 * gz (l.drop p) 1 k + ((byteAt l (p + (k + 1))).toNat : Int) - 128) := by
        unfold Hid; simp only [gz, WX.at8_drop]; rfl
      have hy : (0 : Int) ≤ (byteAt l (p + (k + 1))).toNat ∧ ((byteAt l (p + (k + 1))).toNat : Int) ≤ 255 := byteAt_le _ _
      obtain ⟨hy0, hy1⟩ := hy
      by_cases hlt : k + 1 < 1
      · have hlt' : (k : Int) + 1 < 1 := by omega
        generalize hg : gz (l.drop p) 1 k = g at *
        have Hg := Lib.hid hg
        clear hg
        have gb2 := gb.2.2 (by omega)
        obtain ⟨b1, b2, _⟩ := gb
        obtain ⟨b3, b4⟩ := gb2
        go_wp2
        go_round
        case rel => exact ⟨k + 1, by omega, by go_num, ret_Iv (by rw [HS.out])⟩
        case measure => simp [intOf]; omega
      · obtain rfl : k = 0 := by omega
        go_wp2
        go_ret
        exact ⟨ret_I HZ.out, rfl⟩
  · go_enter Tryd.func42, Tryd.ntmps42
    go_wp2
    have HG2 := HG.out
    simp only [offZ] at HG2
    have HG := Lib.hid HG2
    clear HG2
    go_loop [7, 8] (gzRel l p 2) (fun _ i => 8 - (intOf i).toNat)
    case atStart => exact ⟨0, by omega, rfl, ret_Iv (by rw [HG.out]; rfl)⟩
    case round =>
      obtain ⟨k, hk1, rfl, rfl⟩ := hrel
      have gb := gz_bd (l.drop p) 2 k (by omega)
      have HS : Hid (gz (l.drop p) 2 (k + 1) = 64 * gz (l.drop p) 2 k + ((byteAt l (p + (k + 1))).toNat : Int) - 128) := by
        unfold Hid; simp only [gz, WX.at8_drop]; rfl
      have hy : (0 : Int) ≤ (byteAt l (p + (k + 1))).toNat ∧ ((byteAt l (p + (k + 1))).toNat : Int) ≤ 255 := byteAt_le _ _
      obtain ⟨hy0, hy1⟩ := hy
      by_cases hlt : k + 1 < 2
      · have hlt' : (k : Int) + 1 < 2 := by omega
        generalize hg : gz (l.drop p) 2 k = g at *
        have Hg := Lib.hid hg
        clear hg
        have gb2 := gb.2.2 (by omega)
        obtain ⟨b1, b2, _⟩ := gb
        obtain ⟨b3, b4⟩ := gb2
        go_wp2
        go_round
        case rel => exact ⟨k + 1, by omega, by go_num, ret_Iv (by rw [HS.out])⟩
        case measure => simp [intOf]; omega
      · obtain rfl : k = 1 := by omega
        go_wp2
        go_ret
        exact ⟨ret_I HZ.out, rfl⟩
  · go_enter Tryd.func42, Tryd.ntmps42
    go_wp2
    have HG2 := HG.out
    simp only [offZ] at HG2
    have HG := Lib.hid HG2
    clear HG2
    go_loop [7, 8] (gzRel l p 3) (fun _ i => 8 - (intOf i).toNat)
    case atStart => exact ⟨0, by omega, rfl, ret_Iv (by rw [HG.out]; rfl)⟩
    case round =>
      obtain ⟨k, hk1, rfl, rfl⟩ := hrel
      have gb := gz_bd (l.drop p) 3 k (by omega)
      have HS : Hid (gz (l.drop p) 3 (k + 1) = 64 * gz (l.drop p) 3 k + ((byteAt l (p + (k + 1))).toNat : Int) - 128) := by
        unfold Hid; simp only [gz, WX.at8_drop]; rfl
      have hy : (0 : Int) ≤ (byteAt l (p + (k + 1))).toNat ∧ ((byteAt l (p + (k + 1))).toNat : Int) ≤ 255 := byteAt_le _ _
      obtain ⟨hy0, hy1⟩ := hy
      by_cases hlt : k + 1 < 3
      · have hlt' : (k : Int) + 1 < 3 := by omega
        generalize hg : gz (l.drop p) 3 k = g at *
        have Hg := Lib.hid hg
        clear hg
        have gb2 := gb.2.2 (by omega)
        obtain ⟨b1, b2, _⟩ := gb
        obtain ⟨b3, b4⟩ := gb2
        go_wp2
        go_round
        case rel => exact ⟨k + 1, by omega, by go_num, ret_Iv (by rw [HS.out])⟩
        case measure => simp [intOf]; omega
      · obtain rfl : k = 2 := by omega
        go_wp2
        go_ret
        exact ⟨ret_I HZ.out, rfl⟩
  · go_enter Tryd.func42, Tryd.ntmps42
    go_wp2
    have HG2 := HG.out
    simp only [offZ] at HG2
    have HG := Lib.hid HG2
    clear HG2
    go_loop [7, 8] (gzRel l p 4) (fun _ i => 8 - (intOf i).toNat)
    case atStart => exact ⟨0, by omega, rfl, ret_Iv (by rw [HG.out]; rfl)⟩
    case round =>
      obtain ⟨k, hk1, rfl, rfl⟩ := hrel
      have gb := gz_bd (l.drop p) 4 k (by omega)
      have HS : Hid (gz (l.drop p) 4 (k + 1) = 64 * gz (l.drop p) 4 k + ((byteAt l (p + (k + 1))).toNat : Int) - 128) := by
        unfold Hid; simp only [gz, WX.at8_drop]; rfl
      have hy : (0 : Int) ≤ (byteAt l (p + (k + 1))).toNat ∧ ((byteAt l (p + (k + 1))).toNat : Int) ≤ 255 := byteAt_le _ _
      obtain ⟨hy0, hy1⟩ := hy
      by_cases hlt : k + 1 < 4
      · have hlt' : (k : Int) + 1 < 4 := by omega
        generalize hg : gz (l.drop p) 4 k = g at *
        have Hg := Lib.hid hg
        clear hg
        have gb2 := gb.2.2 (by omega)
        obtain ⟨b1, b2, _⟩ := gb
        obtain ⟨b3, b4⟩ := gb2
        go_wp2
        go_round
        case rel => exact ⟨k + 1, by omega, by go_num, ret_Iv (by rw [HS.out])⟩
        case measure => simp [intOf]; omega
      · obtain rfl : k = 3 := by omega
        go_wp2
        go_ret
        exact ⟨ret_I HZ.out, rfl⟩
end Go.Proofs.YthooohempokchaaDoor
