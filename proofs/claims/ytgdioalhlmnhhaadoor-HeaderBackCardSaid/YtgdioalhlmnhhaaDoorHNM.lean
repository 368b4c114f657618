/- Walks and lemmas on the program of this seat, used by its statements; each theorem bears its own conditions. -/
import Derived.Test.YtgdioalhlmnhhaaDoorGen
import Derived.Test.YtgdioalhlmnhhaaDoorPureB
import Derived.Test.YtgdioalhlmnhhaaDoorShelf
import Derived.Shelf.Unicode.ValidAny
import Derived.IntWalk
namespace Go.Proofs.YtgdioalhlmnhhaaDoor
open Go.RowKit
set_option linter.unusedVariables false
set_option linter.unusedSimpArgs false
set_option maxRecDepth 100000 in
set_option maxHeartbeats 400000 in
theorem plain_any (n : Nat) (w : World) : Calls Tryd.prog 92 #[.int .i32 (n : Int)] w fun e w' => e = .returned (.bool (WX.plainN n)) ∧ w = w' := by
  have h0 : (0 : Int) ≤ (n : Int) := by omega
  go_enter Tryd.func92, Tryd.ntmps92
  go_wp2
  all_goals
    go_ret
    refine ⟨ret_B ?_, rfl⟩
    rw [Bool.eq_iff_iff]
    simp [WX.plainN]
    omega
set_option maxRecDepth 100000 in
set_option maxHeartbeats 400000 in
theorem rplain_any (n : Nat) (w : World) : Calls Tryd.prog 95 #[I n] w fun e w' => e = .returned (.bool (WX.plainN n)) ∧ w = w' := by
  have h0 : (0 : Int) ≤ (n : Int) := by omega
  go_enter Tryd.func95, Tryd.ntmps95
  go_wp2
  all_goals
    go_ret
    refine ⟨ret_B ?_, rfl⟩
    rw [Bool.eq_iff_iff]
    simp [WX.plainN]
    omega
set_option maxRecDepth 100000 in
set_option maxHeartbeats 400000 in
theorem ris_any (n : Int) (w : World) : Calls Tryd.prog 120 #[I n] w fun e w' => e = .returned (.bool (WX.isR n)) ∧ w = w' := by
  go_enter Tryd.func120, Tryd.ntmps120
  go_wp2
  all_goals
    go_ret
    refine ⟨ret_B ?_, rfl⟩
    rw [Bool.eq_iff_iff]
    simp [WX.isR]
    omega
theorem str_new (W : World) (src dst e : TypeId) (xs : List Int) (c : Nat) (hs : Tryd.prog.underlying src = some (.slice e)) (he : Tryd.prog.underlying e = some (.int .u8)) (hd : Tryd.prog.underlying dst = some .string) (t : TypeId) :
    (convert src dst (.slice (some ⟨W.heap.size, 0, none⟩) xs.length c)).run Tryd.prog (W.alloc (.cells (xs.map (Value.int .u8)).toArray t)) = .ok (.string ⟨(xs.map fun n => UInt8.ofNat n.toNat).toArray⟩) (W.alloc (.cells (xs.map (Value.int .u8)).toArray t)) :=
  run_convert_bytes_arg _ src e hs he W.heap.size 0 xs.length c xs rfl (fun i hi => by
    rw [cell_at (heap_new W _)]
    simp [List.getD, hi]) dst hd
@[go_sem] theorem str_new1 (W : World) (a : Int) (c : Nat) (t : TypeId) : (convert 31 9 (.slice (some ⟨W.heap.size, 0, none⟩) 1 c)).run Tryd.prog (W.alloc (.cells #[.int .u8 a] t)) = .ok (S [UInt8.ofNat a.toNat]) (W.alloc (.cells #[.int .u8 a] t)) :=
  str_new W _ _ 5 [a] c Tryd.underlying31 Tryd.underlying5 Tryd.underlying9 t
@[go_sem] theorem str_new2 (W : World) (a b : Int) (c : Nat) (t : TypeId) : (convert 31 9 (.slice (some ⟨W.heap.size, 0, none⟩) 2 c)).run Tryd.prog (W.alloc (.cells #[.int .u8 a, .int .u8 b] t)) = .ok (S [UInt8.ofNat a.toNat, UInt8.ofNat b.toNat]) (W.alloc (.cells #[.int .u8 a, .int .u8 b] t)) :=
  str_new W _ _ 5 [a, b] c Tryd.underlying31 Tryd.underlying5 Tryd.underlying9 t
@[go_sem] theorem str_new3 (W : World) (a b d : Int) (c : Nat) (t : TypeId) : (convert 31 9 (.slice (some ⟨W.heap.size, 0, none⟩) 3 c)).run Tryd.prog (W.alloc (.cells #[.int .u8 a, .int .u8 b, .int .u8 d] t)) = .ok (S [UInt8.ofNat a.toNat, UInt8.ofNat b.toNat, UInt8.ofNat d.toNat]) (W.alloc (.cells #[.int .u8 a, .int .u8 b, .int .u8 d] t)) :=
  str_new W _ _ 5 [a, b, d] c Tryd.underlying31 Tryd.underlying5 Tryd.underlying9 t
@[go_sem] theorem str_new4 (W : World) (a b d f : Int) (c : Nat) (t : TypeId) : (convert 31 9 (.slice (some ⟨W.heap.size, 0, none⟩) 4 c)).run Tryd.prog (W.alloc (.cells #[.int .u8 a, .int .u8 b, .int .u8 d, .int .u8 f] t)) = .ok (S [UInt8.ofNat a.toNat, UInt8.ofNat b.toNat, UInt8.ofNat d.toNat, UInt8.ofNat f.toNat]) (W.alloc (.cells #[.int .u8 a, .int .u8 b, .int .u8 d, .int .u8 f] t)) :=
  str_new W _ _ 5 [a, b, d, f] c Tryd.underlying31 Tryd.underlying5 Tryd.underlying9 t
set_option maxRecDepth 100000 in
set_option maxHeartbeats 1000000 in
theorem rbytes_1 (n : Int) (w : World) (h0 : 0 ≤ n) (h1 : n < 128) : Calls Tryd.prog 121 #[I n] w fun e w' => e = .returned (S (Lib.encodeRune n)) ∧ Kept [] w w' := by
  go_enter Tryd.func121, Tryd.ntmps121
  go_wp2
  go_ret
  exact ⟨ret_S (by rw [Lib.encodeRune, Lib.encodeRuneZ_one h0 (by omega)]; rfl), (Kept.refl _ _).alloc _⟩
set_option maxRecDepth 100000 in
set_option maxHeartbeats 1000000 in
theorem rbytes_2 (n : Int) (w : World) (h0 : 128 ≤ n) (h1 : n < 2048) : Calls Tryd.prog 121 #[I n] w fun e w' => e = .returned (S (Lib.encodeRune n)) ∧ Kept [] w w' := by
  go_enter Tryd.func121, Tryd.ntmps121
  go_wp2
  go_ret
  exact ⟨ret_S (by rw [Lib.encodeRune, Lib.encodeRuneZ_two h0 (by omega)]; rfl), (Kept.refl _ _).alloc _⟩
set_option maxRecDepth 100000 in
set_option maxHeartbeats 1000000 in
theorem rbytes_3 (n : Int) (w : World) (h0 : 2048 ≤ n) (h1 : n < 65536) (hb : n < 55296 ∨ 57343 < n) : Calls Tryd.prog 121 #[I n] w fun e w' => e = .returned (S (Lib.encodeRune n)) ∧ Kept [] w w' := by
  have HB := Lib.hid hb
  clear hb
  go_enter Tryd.func121, Tryd.ntmps121
  go_wp2
  go_ret
  exact ⟨ret_S (by rw [Lib.encodeRune, Lib.encodeRuneZ_three (by have := HB.out; omega)]; rfl), (Kept.refl _ _).alloc _⟩
set_option maxRecDepth 100000 in
set_option maxHeartbeats 1000000 in
theorem rbytes_4 (n : Int) (w : World) (h0 : 65536 ≤ n) (h1 : n < 1114112) : Calls Tryd.prog 121 #[I n] w fun e w' => e = .returned (S (Lib.encodeRune n)) ∧ Kept [] w w' := by
  go_enter Tryd.func121, Tryd.ntmps121
  go_wp2
  go_ret
  exact ⟨ret_S (by rw [Lib.encodeRune, Lib.encodeRuneZ_four h0 (by omega)]; rfl), (Kept.refl _ _).alloc _⟩
theorem rbytes_any (n : Int) (w : World) (h : WX.isR n = true) : Calls Tryd.prog 121 #[I n] w fun e w' => e = .returned (S (Lib.encodeRune n)) ∧ Kept [] w w' := by
  simp only [WX.isR, decide_eq_true_eq] at h
  by_cases h1 : n < 128
  · exact rbytes_1 n w (by omega) h1
  by_cases h2 : n < 2048
  · exact rbytes_2 n w (by omega) h2
  by_cases h3 : n < 65536
  · exact rbytes_3 n w (by omega) h3 (by omega)
  · exact rbytes_4 n w (by omega) (by omega)
/-! ### guess -/
def offZ (many : Nat) : Int := if many = 2 then 192 else if many = 3 then 224 else if many = 4 then 240 else 0
def gz (l : List UInt8) (many : Nat) : Nat → Int
  | 0 => (WX.at8 l 0 : Int) - offZ many
  | j + 1 => 64 * gz l many j + WX.at8 l (j + 1) - 128
theorem gz_all (l : List UInt8) (many : Nat) (h1 : 1 ≤ many) (h4 : many ≤ 4) : gz l many (many - 1) = WX.guessZ l many := by
  have : many = 1 ∨ many = 2 ∨ many = 3 ∨ many = 4 := by omega
  rcases this with rfl | rfl | rfl | rfl <;> simp [gz, WX.guessZ, offZ]
theorem gz_bd (l : List UInt8) (many j : Nat) (h : j ≤ 3) : -134217728 ≤ gz l many j ∧ gz l many j ≤ 134217728 ∧ (j ≤ 2 → -2097152 ≤ gz l many j ∧ gz l many j ≤ 2097152) := by
  have b := WX.at8_lt l
  have o : 0 ≤ offZ many ∧ offZ many ≤ 240 := by unfold offZ; (repeat' split) <;> omega
  have g0 : -240 ≤ gz l many 0 ∧ gz l many 0 ≤ 255 := by have := b 0; simp only [gz]; omega
  have g1 : -16000 ≤ gz l many 1 ∧ gz l many 1 ≤ 17000 := by have := b 1; show _ ≤ 64 * gz l many 0 + WX.at8 l 1 - 128 ∧ 64 * gz l many 0 + WX.at8 l 1 - 128 ≤ _; omega
  have g2 : -1100000 ≤ gz l many 2 ∧ gz l many 2 ≤ 1100000 := by have := b 2; show _ ≤ 64 * gz l many 1 + WX.at8 l 2 - 128 ∧ 64 * gz l many 1 + WX.at8 l 2 - 128 ≤ _; omega
  have g3 : -71000000 ≤ gz l many 3 ∧ gz l many 3 ≤ 71000000 := by have := b 3; show _ ≤ 64 * gz l many 2 + WX.at8 l 3 - 128 ∧ 64 * gz l many 2 + WX.at8 l 3 - 128 ≤ _; omega
  have : j = 0 ∨ j = 1 ∨ j = 2 ∨ j = 3 := by omega
  rcases this with rfl | rfl | rfl | rfl <;> omega
def gzRel (l : List UInt8) (p many : Nat) (n i : Value) : Prop := ∃ k : Nat, k + 1 ≤ many ∧ i = I (k + 1 : Nat) ∧ n = I (gz (l.drop p) many k)
theorem ret_Iv {a b : Int} (h : a = b) : Value.int .i64 a = I b := by rw [h]
set_option maxRecDepth 100000 in
set_option maxHeartbeats 1000000 in
theorem guess_any (l : List UInt8) (p many : Nat) (w : World) (h1 : 1 ≤ many) (h4 : many ≤ 4) (hp : p + many ≤ l.length) (hl : l.length ≤ 4611686018427387904) :
    Calls Tryd.prog 119 #[S l, I p, I many] w fun e w' => e = .returned (I (WX.guessZ (l.drop p) many)) ∧ w = w' := by
  have hz := gz_all (l.drop p) many h1 h4
  have hi0 : (p : Int) < (l.length : Int) := by omega
  have hp' : (p : Int) + many ≤ l.length := by omega
  have hl' : (l.length : Int) ≤ 4611686018427387904 := by omega
  have HZ := Lib.hid hz
  have HG : Hid (gz (l.drop p) many 0 = ((byteAt l p).toNat : Int) - offZ many) := by unfold Hid; simp only [gz, WX.at8_drop, Nat.add_zero]; rfl
  have HM : Hid (many = 1 ∨ many = 2 ∨ many = 3 ∨ many = 4) := by unfold Hid; omega
  have hx : (0 : Int) ≤ (byteAt l p).toNat ∧ ((byteAt l p).toNat : Int) ≤ 255 := by have := (byteAt l p).toNat_lt; omega
  obtain ⟨hx0, hx1⟩ := hx
  clear hz
  rcases HM.out with rfl | rfl | rfl | rfl
  · go_enter Tryd.func119, Tryd.ntmps119
    go_wp2
    have HG2 := HG.out
    simp only [offZ] at HG2
    have HG := Lib.hid HG2
    clear HG2
    go_loop [7, 8] (gzRel l p 1) (fun _ i => 8 - (intOf i).toNat)
    case atStart => exact ⟨0, by omega, rfl, ret_Iv (by rw [HG.out]; rfl)⟩
    case round =>
      obtain ⟨k, hk1, rfl, rfl⟩ := hrel
      have gb := gz_bd (l.drop p) 1 k (by omega)
      have HS : Hid (gz (l.drop p) 1 (k + 1) = 64 * gz (l.drop p) 1 k + ((byteAt l (p + (k + 1))).toNat : Int) - 128) := by
        unfold Hid; simp only [gz, WX.at8_drop]; rfl
      have hy : (0 : Int) ≤ (byteAt l (p + (k + 1))).toNat ∧ ((byteAt l (p + (k + 1))).toNat : Int) ≤ 255 := byteAt_le _ _
      obtain ⟨hy0, hy1⟩ := hy
      by_cases hlt : k + 1 < 1
      · have hlt' : (k : Int) + 1 < 1 := by omega
        generalize hg : gz (l.drop p) 1 k = g at *
        have Hg := Lib.hid hg
        clear hg
        have gb2 := gb.2.2 (by omega)
        obtain ⟨b1, b2, _⟩ := gb
        obtain ⟨b3, b4⟩ := gb2
        go_wp2
        go_round
        case rel => exact ⟨k + 1, by omega, by go_num, ret_Iv (by rw [HS.out])⟩
        case measure => simp [intOf]; omega
      · obtain rfl : k = 0 := by omega
        go_wp2
        go_ret
        exact ⟨ret_I HZ.out, rfl⟩
  · go_enter Tryd.func119, Tryd.ntmps119
    go_wp2
    have HG2 := HG.out
    simp only [offZ] at HG2
    have HG := Lib.hid HG2
    clear HG2
    go_loop [7, 8] (gzRel l p 2) (fun _ i => 8 - (intOf i).toNat)
    case atStart => exact ⟨0, by omega, rfl, ret_Iv (by rw [HG.out]; rfl)⟩
    case round =>
      obtain ⟨k, hk1, rfl, rfl⟩ := hrel
      have gb := gz_bd (l.drop p) 2 k (by omega)
      have HS : Hid (gz (l.drop p) 2 (k + 1) = 64 * gz (l.drop p) 2 k + ((byteAt l (p + (k + 1))).toNat : Int) - 128) := by
        unfold Hid; simp only [gz, WX.at8_drop]; rfl
      have hy : (0 : Int) ≤ (byteAt l (p + (k + 1))).toNat ∧ ((byteAt l (p + (k + 1))).toNat : Int) ≤ 255 := byteAt_le _ _
      obtain ⟨hy0, hy1⟩ := hy
      by_cases hlt : k + 1 < 2
      · have hlt' : (k : Int) + 1 < 2 := by omega
        generalize hg : gz (l.drop p) 2 k = g at *
        have Hg := Lib.hid hg
        clear hg
        have gb2 := gb.2.2 (by omega)
        obtain ⟨b1, b2, _⟩ := gb
        obtain ⟨b3, b4⟩ := gb2
        go_wp2
        go_round
        case rel => exact ⟨k + 1, by omega, by go_num, ret_Iv (by rw [HS.out])⟩
        case measure => simp [intOf]; omega
      · obtain rfl : k = 1 := by omega
        go_wp2
        go_ret
        exact ⟨ret_I HZ.out, rfl⟩
  · go_enter Tryd.func119, Tryd.ntmps119
    go_wp2
    have HG2 := HG.out
    simp only [offZ] at HG2
    have HG := Lib.hid HG2
    clear HG2
    go_loop [7, 8] (gzRel l p 3) (fun _ i => 8 - (intOf i).toNat)
    case atStart => exact ⟨0, by omega, rfl, ret_Iv (by rw [HG.out]; rfl)⟩
    case round =>
      obtain ⟨k, hk1, rfl, rfl⟩ := hrel
      have gb := gz_bd (l.drop p) 3 k (by omega)
      have HS : Hid (gz (l.drop p) 3 (k + 1) = 64 * gz (l.drop p) 3 k + ((byteAt l (p + (k + 1))).toNat : Int) - 128) := by
        unfold Hid; simp only [gz, WX.at8_drop]; rfl
      have hy : (0 : Int) ≤ (byteAt l (p + (k + 1))).toNat ∧ ((byteAt l (p + (k + 1))).toNat : Int) ≤ 255 := byteAt_le _ _
      obtain ⟨hy0, hy1⟩ := hy
      by_cases hlt : k + 1 < 3
      · have hlt' : (k : Int) + 1 < 3 := by omega
        generalize hg : gz (l.drop p) 3 k = g at *
        have Hg := Lib.hid hg
        clear hg
        have gb2 := gb.2.2 (by omega)
        obtain ⟨b1, b2, _⟩ := gb
        obtain ⟨b3, b4⟩ := gb2
        go_wp2
        go_round
        case rel => exact ⟨k + 1, by omega, by go_num, ret_Iv (by rw [HS.out])⟩
        case measure => simp [intOf]; omega
      · obtain rfl : k = 2 := by omega
        go_wp2
        go_ret
        exact ⟨ret_I HZ.out, rfl⟩
  · go_enter Tryd.func119, Tryd.ntmps119
    go_wp2
    have HG2 := HG.out
    simp only [offZ] at HG2
    have HG := Lib.hid HG2
    clear HG2
    go_loop [7, 8] (gzRel l p 4) (fun _ i => 8 - (intOf i).toNat)
    case atStart => exact ⟨0, by omega, rfl, ret_Iv (by rw [HG.out]; rfl)⟩
    case round =>
      obtain ⟨k, hk1, rfl, rfl⟩ := hrel
      have gb := gz_bd (l.drop p) 4 k (by omega)
      have HS : Hid (gz (l.drop p) 4 (k + 1) = 64 * gz (l.drop p) 4 k + ((byteAt l (p + (k + 1))).toNat : Int) - 128) := by
        unfold Hid; simp only [gz, WX.at8_drop]; rfl
      have hy : (0 : Int) ≤ (byteAt l (p + (k + 1))).toNat ∧ ((byteAt l (p + (k + 1))).toNat : Int) ≤ 255 := byteAt_le _ _
      obtain ⟨hy0, hy1⟩ := hy
      by_cases hlt : k + 1 < 4
      · have hlt' : (k : Int) + 1 < 4 := by omega
        generalize hg : gz (l.drop p) 4 k = g at *
        have Hg := Lib.hid hg
        clear hg
        have gb2 := gb.2.2 (by omega)
        obtain ⟨b1, b2, _⟩ := gb
        obtain ⟨b3, b4⟩ := gb2
        go_wp2
        go_round
        case rel => exact ⟨k + 1, by omega, by go_num, ret_Iv (by rw [HS.out])⟩
        case measure => simp [intOf]; omega
      · obtain rfl : k = 3 := by omega
        go_wp2
        go_ret
        exact ⟨ret_I HZ.out, rfl⟩
/-! ### Rune -/
theorem ris_at (n : Int) (w : World) (b : Bool) (h : WX.isR n = b) : Calls Tryd.prog 120 #[I n] w fun e w' => e = .returned (.bool b) ∧ w = w' := h ▸ ris_any n w
def runeF (l : List UInt8) : Nat × Nat := if WX.isOk l = true then WX.dec l else (0, 0)
set_option maxRecDepth 100000 in
set_option maxHeartbeats 2000000 in
theorem rrune_any (l : List UInt8) (p : Nat) (w : World) (hp : p < l.length) (hl : l.length ≤ 4611686018427387904) :
    Calls Tryd.prog 94 #[S l, I p] w fun e w' => e = .returned (.tuple #[I (runeF (l.drop p)).1, I (runeF (l.drop p)).2]) ∧ Kept [] w w' := by
  have hne : l.drop p ≠ [] := by intro e; have h2 := congrArg List.length e; rw [List.length_drop, List.length_nil] at h2; omega
  have hit := WX.hit_iff (l.drop p) hne
  have hw := WX.dec_width (l.drop p) hne
  have HH := Lib.hid (And.intro hit hw)
  have hp' : (p : Int) < l.length := by omega
  have hl' : (l.length : Int) ≤ 4611686018427387904 := by omega
  clear hit hw hne
  go_enter Tryd.func94, Tryd.ntmps94
  go_wp2
  go_loopw [6] (fun m wr => ∃ k : Nat, k ≤ 4 ∧ m = I (k + 1 : Nat) ∧ p + k ≤ l.length ∧ Kept [] w wr ∧ ¬ (WX.isOk (l.drop p) = true ∧ (WX.dec (l.drop p)).2 ≤ k)) (fun m _ => 8 - (intOf m).toNat)
  case atStart => exact ⟨0, by omega, rfl, by omega, Kept.refl _ _, by intro h; have := HH.out.2; omega⟩
  case round =>
    obtain ⟨k, hk, rfl, hpk, hkw, hno⟩ := hrel
    have HK := Lib.hid hkw
    have HNO := Lib.hid hno
    clear hkw hno
    have hpk' : (p : Int) + k ≤ l.length := by omega
    by_cases h4 : k < 4 ∧ p + k < l.length
    · obtain ⟨h4, h5⟩ := h4
      have h4' : (k : Int) < 4 := by omega
      have h5' : (p : Int) + (k + 1) ≤ l.length := by omega
      go_wp2_with (fail)
      refine (guess_any l p (k + 1) _ (by omega) (by omega) (by omega) hl).mono ?_
      rintro e w1 ⟨rfl, rfl⟩
      have hiff := HH.out.1 (k + 1) (by omega) (by omega) (by rw [List.length_drop]; omega)
      have HI : Hid ((WX.hitB (l.drop p) (k + 1) = true) = (WX.isOk (l.drop p) = true ∧ (WX.dec (l.drop p)).2 = k + 1)) := by unfold Hid; exact propext hiff
      unfold WX.hitB at hiff
      generalize hg : WX.guessZ (l.drop p) (k + 1) = g at *
      have HG := Lib.hid hg
      clear hg
      cases hr : WX.isR g with
      | false =>
        have HR := Lib.hid hr
        clear hr hiff
        go_wp2_with (fail)
        go_quiet ((go_at_call 120; exact Calls.quiet_of_same ((ris_at g _ false HR.out).mono fun _ _ h => ⟨h.1, h.2.symm⟩)))
        go_wp2
        go_round
        case rel =>
          refine ⟨k + 1, by omega, by go_num, by omega, HK.out.drewN _, fun h => HNO.out ⟨h.1, ?_⟩⟩
          rcases Nat.lt_or_ge k (WX.dec (l.drop p)).2 with h6 | h6
          · have h7 : WX.hitB (l.drop p) (k + 1) = true := by rw [HI.out]; exact ⟨h.1, by omega⟩
            unfold WX.hitB at h7
            rw [HG.out, HR.out] at h7
            simp at h7
          · exact h6
        case measure => simp [intOf]; omega
      | true =>
        have HR := Lib.hid hr
        clear hr hiff
        have q1 : (p : Int) ≤ (p : Int) + ((k : Int) + 1) := by omega
        have q2 : (0 : Int) ≤ (p : Int) + ((k : Int) + 1) := by omega
        have q3 : ((p : Int) + ((k : Int) + 1)).toNat = p + (k + 1) := by omega
        have q4 : IntKind.i64.wrap ((p : Int) + ((k : Int) + 1)) = (p : Int) + ((k : Int) + 1) := IntWalk.i64_in _ (by omega)
        go_wp2_with (fail)
        go_region_with ((first | (go_at_call 120; refine (ris_at g _ true HR.out).mono ?_; rintro e w1 ⟨rfl, rfl⟩) | (go_at_call 121; refine (rbytes_any g _ HR.out).mono ?_; rintro e w1 ⟨rfl, k1⟩)))
        all_goals
          clear q1 q2 q3 q4
          have ec : (Lib.encodeRune g == List.drop p (List.take (p + (k + 1)) l)) = (Lib.encodeRune g == (l.drop p).take (k + 1)) := by rw [List.take_drop]
          cases hb : (Lib.encodeRune g == List.drop p (List.take (p + (k + 1)) l)) with
          | true =>
            have h7 : WX.hitB (l.drop p) (k + 1) = true := by
              unfold WX.hitB; rw [HG.out, HR.out, ← ec, hb]; rfl
            rw [HI.out] at h7
            have hne : l.drop p ≠ [] := by intro e; have h2 := congrArg List.length e; rw [List.length_drop, List.length_nil] at h2; omega
            have h8 := WX.guess_dec (l.drop p) hne h7.1
            rw [h7.2, HG.out] at h8
            have hf : runeF (l.drop p) = ((WX.dec (l.drop p)).1, k + 1) := by unfold runeF; rw [if_pos h7.1, ← h7.2]
            have HF := Lib.hid hf
            have H8 := Lib.hid h8
            have K1 := HK.out.drew.trans' k1
            clear ec h7 hne h8 hf
            go_wp2
            go_ret2
            refine ⟨?_, by first | exact K1 | exact K1.drew | exact HK.out.trans' k1⟩
            rw [HF.out, H8.out]; rfl
          | false =>
            have K1 := HK.out.drew.trans' k1
            have EC := Lib.hid (ec.symm.trans hb)
            clear ec
            go_wp2
            go_roundw
            case rel =>
              refine ⟨k + 1, by omega, by go_num, by omega, by first | exact K1 | exact K1.drew | exact HK.out.trans' k1, fun h => HNO.out ⟨h.1, ?_⟩⟩
              rcases Nat.lt_or_ge k (WX.dec (l.drop p)).2 with h6 | h6
              · have h7 : WX.hitB (l.drop p) (k + 1) = true := by rw [HI.out]; exact ⟨h.1, by omega⟩
                unfold WX.hitB at h7
                rw [HG.out, HR.out, EC.out] at h7
                simp at h7
              · exact h6
            case measure => simp [intOf]; omega
    · have hb := HH.out.2
      rw [List.length_drop] at hb
      have hnot : ¬ WX.isOk (l.drop p) = true := fun h => HNO.out ⟨h, by omega⟩
      have hf : runeF (l.drop p) = (0, 0) := by unfold runeF; rw [if_neg hnot]
      have HF := Lib.hid hf
      clear hb hnot hf
      by_cases h5 : k < 4
      · have h6 : decide ((p : Int) + ((k : Int) + 1) ≤ (l.length : Int)) = false := by rw [decide_eq_false_iff_not]; omega
        have h5' : (k : Int) < 4 := by omega
        clear h4
        go_wp2
        go_ret2
        exact ⟨by rw [HF.out]; rfl, HK.out⟩
      · have h5' : ¬ (k : Int) < 4 := by omega
        clear h4
        go_wp2
        go_ret2
        exact ⟨by rw [HF.out]; rfl, HK.out⟩
theorem take_byteAt1 (l : List UInt8) (k : Nat) (h : k < l.length) : l.take (k + 1) = l.take k ++ [byteAt l k] := by
  rw [List.take_succ_eq_append_getElem h, byteAt_eq l k h]
/-! ### Text, Name -/
structure Tabs (w : World) : Prop where
  u8 : Lib.Utf8Tabs 1 2 w
  ml : ∃ m : Int, w.cell? ⟨0, 0, none⟩ = some (I m)
theorem Kept.cellOf {w w' : World} (h : Kept [] w w') {p : Addr} {v : Value} (hc : w.cell? p = some v) : w'.cell? p = some v := by
  have hb : p.block < w.heap.size := by
    rcases Nat.lt_or_ge p.block w.heap.size with h1 | h1
    · exact h1
    · unfold World.cell? at hc; rw [Array.getElem?_eq_none h1] at hc; cases hc
  rw [h.cell hb (by simp), hc]
theorem Tabs.kept {w w' : World} (h : Tabs w) (k : Kept [] w w') : Tabs w' :=
  ⟨⟨fun c hc => k.cellOf (h.u8.1 c hc), fun i hi => ⟨k.cellOf (h.u8.2 i hi).1, k.cellOf (h.u8.2 i hi).2⟩⟩, by obtain ⟨m, hm⟩ := h.ml; exact ⟨m, k.cellOf hm⟩⟩
theorem Kept.of_below0 {w w' : World} (h : Below w.heap.size w w') : Kept [] w w' := Kept.of_below h (Nat.le_refl _)
theorem valid_any (l : List UInt8) (w : World) (hl : l.length ≤ 9223372036854775807) (hT : Tabs w) :
    Calls Tryd.prog 117 #[S l] w fun e w' => e = .returned (.bool (WX.textB l)) ∧ Kept [] w w' :=
  (Any.utf8_ValidString Tryd.lays196 ⟨l.toArray⟩ w (by simpa [ByteArray.size] using hl) hT.u8).mono fun e w' ⟨h1, h2⟩ => ⟨by rw [h1, WX.validD_text], Kept.of_below0 h2⟩
theorem wtext_any (l : List UInt8) (w : World) (hl : l.length ≤ 9223372036854775807) (hT : Tabs w) :
    Calls Tryd.prog 91 #[S l] w fun e w' => e = .returned (.bool (WX.textB l)) ∧ Kept [] w w' := by
  go_enter Tryd.func91, Tryd.ntmps91
  go_wp2_with (fail)
  refine (valid_any l w hl hT).mono ?_
  rintro e w1 ⟨rfl, k1⟩
  go_wp2
  go_ret
  exact ⟨rfl, k1⟩
theorem drop_ne {l : List UInt8} {p : Nat} (h : p < l.length) : l.drop p ≠ [] := by intro e; have h2 := congrArg List.length e; rw [List.length_drop, List.length_nil] at h2; omega
theorem runeF_ok {l : List UInt8} (h : WX.isOk l = true) : runeF l = WX.dec l := by unfold runeF; rw [if_pos h]
theorem runeF_no {l : List UInt8} (h : WX.isOk l = false) : runeF l = (0, 0) := by unfold runeF; rw [if_neg (by simp [h])]
/-! ### words.Name -/
theorem Kept.iterAt {K : List Nat} {a w : World} (h : Kept K a w) {k : Nat} (hk : a.heap.size ≤ k) (s : ByteArray) (p : Nat) : Kept K a (w.iterAt k s p) :=
  ⟨h.os, h.tape, h.output, by rw [Lib.iterAt_size]; exact h.size, fun i hi hn => by
    rw [Lib.iterAt_other _ _ _ _ _ (by omega)]; exact h.block i hi hn⟩
theorem nameB_no {l : List UInt8} (h : l = [] ∨ 24 < l.length ∨ l = [46] ∨ l = [46, 46] ∨ WX.textB l = false) : WX.nameB l = false := by
  cases hn : WX.nameB l with
  | false => rfl
  | true =>
    exfalso
    have ht := WX.nameB_text hn
    unfold WX.nameB at hn
    simp only [Bool.and_eq_true, bne_iff_ne, Bool.not_eq_true', decide_eq_true_eq] at hn
    rcases h with rfl | h | rfl | rfl | h
    · simp at hn
    · omega
    · simp at hn
    · simp at hn
    · rw [h] at ht; cases ht
theorem nameB_go {l : List UInt8} (h1 : l ≠ []) (h2 : l.length ≤ 24) (h3 : l ≠ [46]) (h4 : l ≠ [46, 46]) : WX.nameB l = (WX.units l).all WX.nameU := by
  have : l.isEmpty = false := by cases l; exact absurd rfl h1; rfl
  simp [WX.nameB, this, h2, h3, h4]
theorem iter_at (w : World) (o : Obj) (k : Nat) (h : k = w.heap.size) : (w.alloc o).heap[k]? = some o := by subst h; exact heap_new w o
set_option maxHeartbeats 1000000 in
theorem name_any (l : List UInt8) (w : World) (hl : l.length ≤ 4611686018427387904) (hT : Tabs w) :
    Calls Tryd.prog 57 #[S l] w fun e w' => e = .returned (.bool (WX.nameB l)) ∧ Kept [] w w' := by
  have hl' : (l.length : Int) ≤ 4611686018427387904 := by omega
  have HT := Lib.hid hT
  clear hT
  by_cases c1 : l = []
  · have hr := Lib.hid (nameB_no (.inl c1))
    have e1 : l.isEmpty = true := by rw [c1]; rfl
    clear c1
    go_enter Tryd.func57, Tryd.ntmps57
    go_wp2
    go_ret
    exact ⟨ret_B hr.out.symm, Kept.refl _ _⟩
  have e1 : l.isEmpty = false := by cases l; exact absurd rfl c1; rfl
  by_cases c2 : 24 < l.length
  · have hr := Lib.hid (nameB_no (.inr (.inl c2)))
    have c2' : (24 : Int) < l.length := by omega
    have C1 := Lib.hid c1
    clear c1
    go_enter Tryd.func57, Tryd.ntmps57
    go_wp2
    go_ret
    exact ⟨ret_B hr.out.symm, Kept.refl _ _⟩
  have c2' : ¬ (24 : Int) < l.length := by omega
  by_cases c3 : l = [46]
  · have hr := Lib.hid (nameB_no (.inr (.inr (.inl c3))))
    have e3 : (l == [46]) = true := by rw [c3]; rfl
    have C1 := Lib.hid c1
    clear c1 c3
    go_enter Tryd.func57, Tryd.ntmps57
    go_wp2
    go_ret
    exact ⟨ret_B hr.out.symm, Kept.refl _ _⟩
  have e3 : (l == [46]) = false := by simpa using c3
  by_cases c4 : l = [46, 46]
  · have hr := Lib.hid (nameB_no (.inr (.inr (.inr (.inl c4)))))
    have e4 : (l == [46, 46]) = true := by rw [c4]; rfl
    have C1 := Lib.hid c1
    clear c1 c3 c4
    go_enter Tryd.func57, Tryd.ntmps57
    go_wp2
    go_ret
    exact ⟨ret_B hr.out.symm, Kept.refl _ _⟩
  have e4 : (l == [46, 46]) = false := by simpa using c4
  have hgo := Lib.hid (nameB_go c1 (by omega) c3 c4)
  clear c1 c2 c3 c4
  cases ht : WX.textB l with
  | false =>
    have hr := Lib.hid (nameB_no (.inr (.inr (.inr (.inr ht)))))
    have H := Lib.hid ht
    clear ht
    go_enter Tryd.func57, Tryd.ntmps57
    go_wp2_with (fail)
    refine (wtext_any l w (by omega) HT.out).mono ?_
    rintro e w1 ⟨rfl, k1⟩
    rw [H.out]
    go_wp2
    go_ret
    exact ⟨ret_B hr.out.symm, k1⟩
  | true =>
    have H := Lib.hid ht
    clear ht
    go_enter Tryd.func57, Tryd.ntmps57
    go_wp2_with (fail)
    refine (wtext_any l w (by omega) HT.out).mono ?_
    rintro e w1 ⟨rfl, k1⟩
    rw [H.out]
    have K1 := Lib.hid k1
    have Z1 := k1.size
    clear k1
    go_wp2_with (fail)
    go_loopw [4] (fun _ wr => ∃ p : Nat, p ≤ l.length ∧ wr.heap[w1.heap.size]? = some (.stringIter ⟨l.toArray⟩ p) ∧ Kept [] w wr ∧ WX.textB (l.drop p) = true ∧ (WX.units (l.drop p)).all WX.nameU = (WX.units l).all WX.nameU) (fun _ wr => l.length - wr.iterPos w1.heap.size)
    case atStart =>
      refine ⟨0, by omega, iter_at _ _ _ rfl, K1.out.alloc _, H.out, rfl⟩
    case round =>
      obtain ⟨p, hp, hit, hk, ht, hu⟩ := hrel
      have HK := Lib.hid (And.intro hk (And.intro ht hu))
      have Zs : w1.heap.size < wr.heap.size := (Array.getElem?_eq_some_iff.1 hit).1
      clear hk ht hu
      by_cases hlt : p < l.length
      · have hne := drop_ne hlt
        have hps : p < (⟨l.toArray⟩ : ByteArray).size := by simpa [ByteArray.size] using hlt
        have hnx : ∀ ty, (Instr.next (.pointer (some ⟨w1.heap.size, 0, none⟩)) true ty).run Tryd.prog wr = _ := fun ty => Lib.run_next_any_at wr w1.heap.size ⟨l.toArray⟩ p ty hit hps
        rw [show Utf8.decode ⟨l.toArray⟩ p = WX.dec (l.drop p) from WX.decode_dec _ _] at hnx
        have hit2 := Lib.iterAt_heap wr w1.heap.size ⟨l.toArray⟩ p (p + (WX.dec (l.drop p)).2) hit
        have hok : WX.isOk (l.drop p) = true := by have := HK.out.2.1; rw [WX.textB_cons _ hne, Bool.and_eq_true] at this; exact this.1
        have hw := WX.dec_width _ hne
        rw [List.length_drop] at hw
        have hall := WX.units_all _ hne WX.nameU
        rw [List.drop_drop] at hall
        have htx := HK.out.2.1
        rw [WX.textB_cons _ hne, hok, Bool.true_and, List.drop_drop] at htx
        have hun : WX.nameU (WX.unit1 (l.drop p)) = (WX.plainN (WX.dec (l.drop p)).1 && (WX.dec (l.drop p)).1 != 47) := by unfold WX.unit1 WX.nameU; rw [hok]; rfl
        generalize hd : WX.dec (l.drop p) = d at *
        obtain ⟨r, m⟩ := d
        simp only at hw hnx hit2 hall htx hun
        have HA := Lib.hid (And.intro hit (And.intro hit2 (And.intro hok (And.intro hall (And.intro htx hun)))))
        have HW := Lib.hid hw
        have HD := Lib.hid hd
        clear hit hit2 hok hall htx hun hw hd hne
        cases hpl : WX.plainN r with
        | false =>
          have HP := Lib.hid hpl
          clear hpl
          go_wp2_with (fail)
          refine (plain_any r _).mono ?_
          rintro e w2 ⟨rfl, rfl⟩
          rw [HP.out]
          go_wp2
          go_ret
          refine ⟨ret_B ?_, HK.out.1.iterAt (by omega) _ _⟩
          rw [hgo.out, ← HK.out.2.2, HA.out.2.2.2.1, HA.out.2.2.2.2.2, HP.out]; rfl
        | true =>
          have HP := Lib.hid hpl
          clear hpl
          cases h47 : ((r : Int) == 47) with
          | true =>
            go_wp2_with (fail)
            refine (plain_any r _).mono ?_
            rintro e w2 ⟨rfl, rfl⟩
            rw [HP.out]
            go_wp2
            go_ret
            refine ⟨ret_B ?_, HK.out.1.iterAt (by omega) _ _⟩
            have : r = 47 := by simp at h47; omega
            rw [hgo.out, ← HK.out.2.2, HA.out.2.2.2.1, HA.out.2.2.2.2.2, HP.out, this]; rfl
          | false =>
            go_wp2_with (fail)
            refine (plain_any r _).mono ?_
            rintro e w2 ⟨rfl, rfl⟩
            rw [HP.out]
            go_wp2
            go_roundw
            case rel =>
              have hr47 : r ≠ 47 := by simp at h47; omega
              refine ⟨p + m, by have := HW.out; omega, HA.out.2.1, HK.out.1.iterAt (by omega) _ _, HA.out.2.2.2.2.1, ?_⟩
              rw [← HK.out.2.2, HA.out.2.2.2.1, HA.out.2.2.2.2.2, HP.out]
              simp [hr47]
            case measure =>
              have := HW.out
              simp only [World.iterPos, HA.out.2.1, HA.out.1]
              omega
      · have hps : ¬ p < (⟨l.toArray⟩ : ByteArray).size := by simpa [ByteArray.size] using hlt
        have hnx : ∀ ty, (Instr.next (.pointer (some ⟨w1.heap.size, 0, none⟩)) true ty).run Tryd.prog wr = _ := fun ty => Lib.run_next_end_at wr w1.heap.size ⟨l.toArray⟩ p ty hit hps
        obtain rfl : p = l.length := by omega
        clear hit
        go_wp2
        go_ret
        refine ⟨ret_B ?_, HK.out.1⟩
        rw [hgo.out, ← HK.out.2.2, List.drop_length]; rfl
/-! ### The reference's Name -/
theorem rrune_at (l : List UInt8) (p r m : Nat) (w : World) (h : runeF (l.drop p) = (r, m)) (hp : p < l.length) (hl : l.length ≤ 4611686018427387904) :
    Calls Tryd.prog 94 #[S l, I p] w fun e w' => e = .returned (.tuple #[I r, I m]) ∧ Kept [] w w' := by
  have := rrune_any l p w hp hl; rw [h] at this; exact this
theorem rplain_at (n : Nat) (b : Bool) (w : World) (h : WX.plainN n = b) : Calls Tryd.prog 95 #[I n] w fun e w' => e = .returned (.bool b) ∧ w = w' := h ▸ rplain_any n w
theorem nameU_unit (l : List UInt8) : WX.nameU (WX.unit1 l) = (WX.isOk l && WX.plainN (WX.dec l).1 && (WX.dec l).1 != 47) := by
  unfold WX.unit1 WX.nameU
  cases WX.isOk l <;> simp
set_option maxHeartbeats 2000000 in
theorem rname_any (l : List UInt8) (w : World) (hl : l.length ≤ 4611686018427387904) :
    Calls Tryd.prog 59 #[S l] w fun e w' => e = .returned (.bool (WX.nameB l)) ∧ Kept [] w w' := by
  have hl' : (l.length : Int) ≤ 4611686018427387904 := by omega
  by_cases c1 : l = []
  · subst c1
    have hr := Lib.hid (nameB_no (l := []) (.inl rfl))
    go_enter Tryd.func59, Tryd.ntmps59
    go_wp2
    go_ret
    exact ⟨ret_B hr.out.symm, Kept.refl _ _⟩
  have hpos : (1 : Int) ≤ l.length := by have := List.length_pos_iff.2 c1; omega
  by_cases c2 : 24 < l.length
  · have hr := Lib.hid (nameB_no (.inr (.inl c2)))
    have c2' : (24 : Int) < l.length := by omega
    have C1 := Lib.hid c1
    clear c1
    go_enter Tryd.func59, Tryd.ntmps59
    go_wp2
    go_ret
    exact ⟨ret_B hr.out.symm, Kept.refl _ _⟩
  have c2' : ¬ (24 : Int) < l.length := by omega
  by_cases c3 : l = [46]
  · subst c3
    have hr := Lib.hid (nameB_no (l := [46]) (.inr (.inr (.inl rfl))))
    go_enter Tryd.func59, Tryd.ntmps59
    go_wp2
    go_ret
    exact ⟨ret_B hr.out.symm, Kept.refl _ _⟩
  have e3 : (l == [46]) = false := by simpa using c3
  by_cases c4 : l = [46, 46]
  · subst c4
    have hr := Lib.hid (nameB_no (l := [46, 46]) (.inr (.inr (.inr (.inl rfl)))))
    go_enter Tryd.func59, Tryd.ntmps59
    go_wp2
    go_ret
    exact ⟨ret_B hr.out.symm, Kept.refl _ _⟩
  have e4 : (l == [46, 46]) = false := by simpa using c4
  have hgo := Lib.hid (nameB_go c1 (by omega) c3 c4)
  clear c1 c2 c3 c4
  go_enter Tryd.func59, Tryd.ntmps59
  go_wp2_with (fail)
  go_loopw [3, 4, 5] (fun a _ _ wr => ∃ p : Nat, p ≤ l.length ∧ a = I p ∧ (WX.units (l.drop p)).all WX.nameU = (WX.units l).all WX.nameU ∧ Kept [] w wr) (fun a _ _ _ => l.length - (intOf a).toNat)
  case atStart => exact ⟨0, by omega, rfl, rfl, Kept.refl _ _⟩
  case round =>
    obtain ⟨p, hp, rfl, hu, hk⟩ := hrel
    have HK := Lib.hid (And.intro hu hk)
    clear hu hk
    by_cases hlt : p < l.length
    · have hlt' : (p : Int) < l.length := by omega
      have hne := drop_ne hlt
      have hw := WX.dec_width _ hne
      rw [List.length_drop] at hw
      have hall := WX.units_all _ hne WX.nameU
      rw [List.drop_drop, nameU_unit] at hall
      cases ho : WX.isOk (l.drop p) with
      | false =>
        have hr := runeF_no ho
        rw [ho] at hall
        have HA := Lib.hid (And.intro hall hr)
        clear ho hr hall hw hne
        go_wp2_with (fail)
        refine (rrune_at l p 0 0 wr HA.out.2 hlt hl).mono ?_
        rintro e w1 ⟨rfl, k1⟩
        go_wp2
        go_ret
        refine ⟨ret_B ?_, HK.out.2.trans' k1⟩
        rw [hgo.out, ← HK.out.1, HA.out.1]; rfl
      | true =>
        have hr := runeF_ok ho
        rw [ho, Bool.true_and] at hall
        generalize hd : WX.dec (l.drop p) = d at *
        obtain ⟨r, m⟩ := d
        simp only at hw hall
        have h0 : ((m : Int) == 0) = false := by simp; omega
        have hm : (p : Int) + m ≤ l.length := by omega
        have HA := Lib.hid (And.intro hall hr)
        have HW := Lib.hid hw
        clear ho hr hall hw hne hd
        cases hpl : WX.plainN r with
        | false =>
          have HP := Lib.hid hpl
          clear hpl
          go_wp2_with (fail)
          refine (rrune_at l p r m wr HA.out.2 hlt hl).mono ?_
          rintro e w1 ⟨rfl, k1⟩
          go_wp2_with (fail)
          refine (rplain_at r false _ HP.out).mono ?_
          rintro e w2 ⟨rfl, rfl⟩
          go_wp2
          go_ret
          refine ⟨ret_B ?_, HK.out.2.trans' k1⟩
          rw [hgo.out, ← HK.out.1, HA.out.1, HP.out]; rfl
        | true =>
          have HP := Lib.hid hpl
          clear hpl
          cases h47 : ((r : Int) == 47) with
          | true =>
            go_wp2_with (fail)
            refine (rrune_at l p r m wr HA.out.2 hlt hl).mono ?_
            rintro e w1 ⟨rfl, k1⟩
            go_wp2_with (fail)
            refine (rplain_at r true _ HP.out).mono ?_
            rintro e w2 ⟨rfl, rfl⟩
            go_wp2
            go_ret
            refine ⟨ret_B ?_, HK.out.2.trans' k1⟩
            have : r = 47 := by simp at h47; omega
            rw [hgo.out, ← HK.out.1, HA.out.1, HP.out, this]; rfl
          | false =>
            go_wp2_with (fail)
            refine (rrune_at l p r m wr HA.out.2 hlt hl).mono ?_
            rintro e w1 ⟨rfl, k1⟩
            go_wp2_with (fail)
            refine (rplain_at r true _ HP.out).mono ?_
            rintro e w2 ⟨rfl, rfl⟩
            go_wp2
            go_roundw
            case rel =>
              have hr47 : r ≠ 47 := by simp at h47; omega
              refine ⟨p + m, by have := HW.out; omega, by go_num, ?_, HK.out.2.trans' k1⟩
              rw [← HK.out.1, HA.out.1, HP.out]; simp [hr47]
            case measure => have := HW.out; simp [intOf]; omega
    · obtain rfl : p = l.length := by omega
      go_wp2
      go_ret
      refine ⟨ret_B ?_, HK.out.2⟩
      rw [hgo.out, ← HK.out.1, List.drop_length]; rfl
theorem rname_at (l : List UInt8) (b : Bool) (w : World) (h : WX.nameB l = b) (hl : l.length ≤ 4611686018427387904) :
    Calls Tryd.prog 59 #[S l] w fun e w' => e = .returned (.bool b) ∧ Kept [] w w' := h ▸ rname_any l w hl
theorem name_at (l : List UInt8) (b : Bool) (w : World) (h : WX.nameB l = b) (hl : l.length ≤ 4611686018427387904) (hT : Tabs w) :
    Calls Tryd.prog 57 #[S l] w fun e w' => e = .returned (.bool b) ∧ Kept [] w w' := h ▸ name_any l w hl hT
end Go.Proofs.YtgdioalhlmnhhaaDoor
