/- Walks and lemmas on the program of this seat, used by its statements; each theorem bears its own conditions. -/
import Derived.Test.YthooohempokchaaDoorLeafB
import Derived.Test.YthooohempokchaaDoorPureB
import Derived.Test.YthooohempokchaaDoorShelf
import Derived.Shelf.Unicode.ValidAny
namespace Go.Proofs.YthooohempokchaaDoor
open Go.RowKit
set_option linter.unusedVariables false
set_option linter.unusedSimpArgs false
/-! ### A builder of the call's own -/
def Bld (B b : Nat) (l : List UInt8) (w : World) : Prop := Lib.IsBuilderF 47 5 B b (Lib.byteCells l) w
structure Bk (B b : Nat) (w w' : World) : Prop where
  bel : Below B w w'
  oth : Lib.OthersKept 5 (some b) w w'
theorem Bk.refl (B b : Nat) (w : World) : Bk B b w w := ⟨Below.refl _ _, Lib.OthersKept.refl _ _ _⟩
theorem Bk.trans {B b : Nat} {u v w : World} (h : Bk B b u v) (k : Bk B b v w) : Bk B b u w := ⟨h.bel.trans k.bel, h.oth.trans k.oth⟩
theorem Bk.size {B b : Nat} {u v : World} (h : Bk B b u v) : u.heap.size ≤ v.heap.size := h.bel.size
theorem wstr (B b : Nat) (l s : List UInt8) (w : World) (h : Bld B b l w) (hlen : l.length + s.length ≤ 140737488355328) (hBw : B ≤ w.heap.size) :
    Calls Tryd.prog 37 #[Ptr b, S s] w fun e w' => e = .returned (.tuple #[I s.length, .nilIface]) ∧ Bld B b (l ++ s) w' ∧ Bk B b w w' :=
  (Tryd.Builder_WriteString_k B b (Lib.byteCells l) ⟨s.toArray⟩ w h (by rw [Lib.byteCells_length]; simpa [ByteArray.size] using hlen) hBw).mono fun e w' ⟨h1, h2, h3, h4⟩ =>
    ⟨by rw [h1]; simp [ByteArray.size], by unfold Bld; rw [Lib.byteCells_append]; exact Or.inr h2, ⟨h3, h4⟩⟩
theorem wbyte (B b : Nat) (l : List UInt8) (c : UInt8) (w : World) (h : Bld B b l w) (hlen : l.length + 1 ≤ 140737488355328) (hBw : B ≤ w.heap.size) :
    Calls Tryd.prog 31 #[Ptr b, .int .u8 (c.toNat : Int)] w fun e w' => e = .returned .nilIface ∧ Bld B b (l ++ [c]) w' ∧ Bk B b w w' :=
  (Tryd.Builder_WriteByte_k B b (Lib.byteCells l) (c.toNat : Int) w h (by rw [Lib.byteCells_length]; exact hlen) hBw).mono fun e w' ⟨h1, h2, h3, h4⟩ =>
    ⟨h1, by unfold Bld; rw [Lib.byteCells_append]; exact Or.inr h2, ⟨h3, h4⟩⟩
theorem wrune (B b : Nat) (l : List UInt8) (r : Nat) (w : World) (h : Bld B b l w) (hr : r ≤ 1114111) (hlen : l.length + 4 ≤ 140737488355328) (hBw : B ≤ w.heap.size) :
    Calls Tryd.prog 38 #[Ptr b, .int .i32 r] w fun e w' => (∃ n : Int, e = .returned (.tuple #[I n, .nilIface])) ∧ Bld B b (l ++ Lib.encodeRune r) w' ∧ Bk B b w w' :=
  (Tryd.Builder_WriteRune_k B b (Lib.byteCells l) (r : Int) (by omega) (by omega) w h (by rw [Lib.byteCells_length]; exact hlen) hBw).mono fun e w' ⟨h1, h2, h3, h4⟩ =>
    ⟨⟨_, h1⟩, by unfold Bld; rw [Lib.byteCells_append, Lib.byteCells_encodeRune]; exact Or.inr h2, ⟨h3, h4⟩⟩
theorem bstr (B b : Nat) (l : List UInt8) (w : World) (h : Bld B b l w) (hBw : B ≤ w.heap.size) :
    Calls Tryd.prog 34 #[Ptr b] w fun e w' => e = .returned (S l) ∧ Bld B b l w' ∧ Bk B b w w' :=
  (Tryd.Builder_String_any_k B b l w h hBw).mono fun e w' ⟨h1, h2, h3, h4⟩ => ⟨h1, h2, ⟨h3, h4⟩⟩
/-! ### hexed, hex, digit, number -/
abbrev digL : List UInt8 := [48, 49, 50, 51, 52, 53, 54, 55, 56, 57, 97, 98, 99, 100, 101, 102]
theorem digits_at : ∀ n, n < 16 → byteAt digL n = WX.hexd n := by decide
theorem digit_tab : ∀ n, n < 256 → Lib.indexByte digL (UInt8.ofNat n) = WX.digN (UInt8.ofNat n) := by decide +kernel
theorem digit_any (c : UInt8) (w : World) : Calls Tryd.prog 33 #[B c] w fun e w' => e = .returned (I (WX.digN c)) ∧ w = w' := by
  go_enter Tryd.func33, Tryd.ntmps33
  go_wp2_with (fail)
  refine (Tryd.strings_IndexByte _ _ _).mono ?_
  rintro e w' ⟨rfl, rfl⟩
  go_wp2
  go_ret
  refine ⟨ret_I ?_, rfl⟩
  have h := digit_tab c.toNat c.toNat_lt
  rw [UInt8.ofNat_toNat] at h
  rw [← h]
theorem rnumber_any (c : UInt8) (w : World) : Calls Tryd.prog 35 #[B c] w fun e w' => e = .returned (I (WX.digN c)) ∧ w = w' := by
  obtain ⟨h0, h1⟩ := (⟨by omega, by have := c.toNat_lt; omega⟩ : (0 : Int) ≤ c.toNat ∧ (c.toNat : Int) ≤ 255)
  go_enter Tryd.func35, Tryd.ntmps35
  go_wp2
  all_goals go_ret
  all_goals refine ⟨ret_I ?_, rfl⟩
  all_goals (unfold WX.digN; (repeat' split) <;> omega)
theorem hexd_val (n : Int) (h0 : 0 ≤ n) (h1 : n < 16) : ((WX.hexd n.toNat).toNat : Int) = if n < 10 then 48 + n else 87 + n := by
  obtain ⟨m, rfl⟩ := Int.eq_ofNat_of_zero_le h0
  have : ∀ m, m < 16 → (WX.hexd m).toNat = if m < 10 then 48 + m else 87 + m := by decide
  have := this m (by omega)
  rw [Int.toNat_natCast]
  split <;> split at this <;> omega
theorem ret_u8 {a b : Int} (h : a = b) : Ending.returned (.int .u8 a) = .returned (.int .u8 b) := by rw [h]
theorem rhex_any (n : Int) (w : World) (h0 : 0 ≤ n) (h1 : n < 16) : Calls Tryd.prog 40 #[.int .u8 n] w fun e w' => e = .returned (B (WX.hexd n.toNat)) ∧ w = w' := by
  have hv := Lib.hid (hexd_val n h0 h1)
  go_enter Tryd.func40, Tryd.ntmps40
  go_wp2
  all_goals go_ret
  all_goals refine ⟨ret_u8 ?_, rfl⟩
  · rw [hv.out, if_pos (by omega)]
  · rw [hv.out, if_neg (by omega)]; omega
theorem hex2_eq (c : UInt8) : WX.hex2 c = [92, 120] ++ [byteAt digL (c.toNat / 16)] ++ [byteAt digL (c.toNat % 16)] := by
  have := c.toNat_lt
  rw [digits_at _ (by omega), digits_at _ (by omega)]; rfl
theorem take_byteAt (l : List UInt8) (k : Nat) (h : k < l.length) : l.take (k + 1) = l.take k ++ [byteAt l k] := by
  rw [List.take_succ_eq_append_getElem h, byteAt_eq l k h]
theorem hexed_any (B b : Nat) (acc l : List UInt8) (w : World) (h : Bld B b acc w) (hlen : acc.length + 4 * l.length ≤ 140737488355328) (hBw : B ≤ w.heap.size) :
    Calls Tryd.prog 39 #[Ptr b, S l] w fun e w' => e = .returned (.tuple #[]) ∧ Bld B b (acc ++ l.flatMap WX.hex2) w' ∧ Bk B b w w' := by
  have hl : (l.length : Int) ≤ 140737488355328 := by omega
  have HH := Lib.hid h
  clear h
  go_enter Tryd.func39, Tryd.ntmps39
  go_wp2
  go_loopw [4, 7] (fun _ i wr => ∃ (k : Nat) (a : List UInt8), k ≤ l.length ∧ i = I k ∧ a = acc ++ (l.take k).flatMap WX.hex2 ∧ a.length = acc.length + 4 * k ∧ Bld B b a wr ∧ Bk B b w wr) (fun _ i _ => l.length - (intOf i).toNat)
  case atStart => exact ⟨0, acc, by omega, rfl, by simp, by simp, HH.out, Bk.refl _ _ _⟩
  case round =>
    obtain ⟨k, a, hk, rfl, ha, hal, hb, bk⟩ := hrel
    have HA := Lib.hid ha
    have HAL := Lib.hid hal
    have HR := Lib.hid (And.intro hb bk)
    have Z := bk.size
    clear hb bk ha hal
    by_cases hlt : k < l.length
    · have hlt' : (k : Int) < l.length := by omega
      have hc := byteAt_le l k
      obtain ⟨hc0, hc1⟩ := hc
      go_wp2_with (fail)
      refine (wstr B b a [92, 120] wr HR.out.1 (by have := HAL.out; simp; omega) (by omega)).mono ?_
      rintro e W1 ⟨rfl, b1, k1⟩
      have HB1 := Lib.hid (And.intro b1 (HR.out.2.trans k1))
      have Z1 := k1.size
      clear b1 k1
      go_wp2_with (fail)
      refine (wbyte B b (a ++ [92, 120]) _ W1 HB1.out.1 (by have := HAL.out; simp; omega) (by omega)).mono ?_
      rintro e W2 ⟨rfl, b2, k2⟩
      have HB2 := Lib.hid (And.intro b2 (HB1.out.2.trans k2))
      have Z2 := k2.size
      clear b2 k2
      go_wp2_with (fail)
      refine (wbyte B b (a ++ [92, 120] ++ [_]) _ W2 HB2.out.1 (by have := HAL.out; simp; omega) (by omega)).mono ?_
      rintro e W3 ⟨rfl, b3, k3⟩
      have HB3 := Lib.hid (And.intro b3 (HB2.out.2.trans k3))
      clear b3 k3
      go_wp2_with (fail)
      go_roundw
      case rel => exact ⟨k + 1, _, by omega, by go_num, by rw [take_byteAt l k hlt, List.flatMap_append, ← List.append_assoc, ← HA.out]; simp only [List.flatMap_cons, List.flatMap_nil, List.append_nil]; rw [hex2_eq, ← List.append_assoc, ← List.append_assoc], by have := HAL.out; simp; omega, HB3.out.1, HB3.out.2⟩
      case measure => simp [intOf]; omega
    · obtain rfl : k = l.length := by omega
      go_wp2
      have hh := HR.out.1
      rw [HA.out, List.take_length] at hh
      exact bodyPost_end (v := .tuple #[]) (by simp [results, Tryd.results39, go_sem]) rfl ⟨rfl, hh, HR.out.2⟩
/-! ### Text, Name -/
structure Tabs (w : World) : Prop where
  u8 : Lib.Utf8Tabs 0 1 w
  ml : ∃ m : Int, w.cell? ⟨2, 0, none⟩ = some (I m)
theorem Kept.cellOf {w w' : World} (h : Kept [] w w') {p : Addr} {v : Value} (hc : w.cell? p = some v) : w'.cell? p = some v := by
  have hb : p.block < w.heap.size := by
    rcases Nat.lt_or_ge p.block w.heap.size with h1 | h1
    · exact h1
    · unfold World.cell? at hc; rw [Array.getElem?_eq_none h1] at hc; cases hc
  rw [h.cell hb (by simp), hc]
theorem Tabs.kept {w w' : World} (h : Tabs w) (k : Kept [] w w') : Tabs w' :=
  ⟨⟨fun c hc => k.cellOf (h.u8.1 c hc), fun i hi => ⟨k.cellOf (h.u8.2 i hi).1, k.cellOf (h.u8.2 i hi).2⟩⟩, by obtain ⟨m, hm⟩ := h.ml; exact ⟨m, k.cellOf hm⟩⟩
theorem Kept.of_below0 {w w' : World} (h : Below w.heap.size w w') : Kept [] w w' := Kept.of_below h (Nat.le_refl _)
theorem valid_any (l : List UInt8) (w : World) (hl : l.length ≤ 9223372036854775807) (hT : Tabs w) :
    Calls Tryd.prog 24 #[S l] w fun e w' => e = .returned (.bool (WX.textB l)) ∧ Kept [] w w' :=
  (Any.utf8_ValidString Tryd.lays196 ⟨l.toArray⟩ w (by simpa [ByteArray.size] using hl) hT.u8).mono fun e w' ⟨h1, h2⟩ => ⟨by rw [h1, WX.validD_text], Kept.of_below0 h2⟩
theorem text_any (l : List UInt8) (w : World) (hl : l.length ≤ 9223372036854775807) (hT : Tabs w) :
    Calls Tryd.prog 11 #[S l] w fun e w' => e = .returned (.bool (WX.textB l)) ∧ Kept [] w w' := by
  go_enter Tryd.func11, Tryd.ntmps11
  go_wp2_with (fail)
  refine (valid_any l w hl hT).mono ?_
  rintro e w1 ⟨rfl, k1⟩
  go_wp2
  go_ret
  exact ⟨rfl, k1⟩
theorem drop_ne {l : List UInt8} {p : Nat} (h : p < l.length) : l.drop p ≠ [] := by intro e; have h2 := congrArg List.length e; rw [List.length_drop, List.length_nil] at h2; omega
theorem runeF_ok {l : List UInt8} (h : WX.isOk l = true) : runeF l = WX.dec l := by unfold runeF; rw [if_pos h]
theorem runeF_no {l : List UInt8} (h : WX.isOk l = false) : runeF l = (0, 0) := by unfold runeF; rw [if_neg (by simp [h])]
set_option maxHeartbeats 1000000 in
theorem rtext_any (l : List UInt8) (w : World) (hl : l.length ≤ 4611686018427387904) :
    Calls Tryd.prog 12 #[S l] w fun e w' => e = .returned (.bool (WX.textB l)) ∧ Kept [] w w' := by
  have hl' : (l.length : Int) ≤ 4611686018427387904 := by omega
  go_enter Tryd.func12, Tryd.ntmps12
  go_wp2
  go_loopw [3, 4, 5] (fun a _ _ wr => ∃ p : Nat, p ≤ l.length ∧ a = I p ∧ WX.textB (l.drop p) = WX.textB l ∧ Kept [] w wr) (fun a _ _ _ => l.length - (intOf a).toNat)
  case atStart => exact ⟨0, by omega, rfl, rfl, Kept.refl _ _⟩
  case round =>
    obtain ⟨p, hp, rfl, ht, hk⟩ := hrel
    have HK := Lib.hid (And.intro ht hk)
    clear ht hk
    by_cases hlt : p < l.length
    · have hlt' : (p : Int) < l.length := by omega
      have hne := drop_ne hlt
      have hw := WX.dec_width _ hne
      have hcons := WX.textB_cons _ hne
      rw [List.drop_drop] at hcons
      rw [List.length_drop] at hw
      have HC := Lib.hid hcons
      clear hcons
      cases ho : WX.isOk (l.drop p) with
      | false =>
        have hr := runeF_no ho
        have HO := Lib.hid (And.intro ho hr)
        clear ho hr
        go_wp2_with (fail)
        refine (rrune_any l p wr hlt hl).mono ?_
        rintro e w1 ⟨rfl, k1⟩
        rw [HO.out.2]
        go_wp2
        go_ret
        refine ⟨ret_B ?_, HK.out.2.trans' k1⟩
        rw [← HK.out.1, HC.out, HO.out.1]; rfl
      | true =>
        have hr := runeF_ok ho
        have HO := Lib.hid (And.intro ho hr)
        clear ho hr
        go_wp2_with (fail)
        refine (rrune_any l p wr hlt hl).mono ?_
        rintro e w1 ⟨rfl, k1⟩
        rw [HO.out.2]
        generalize hd : WX.dec (l.drop p) = d at *
        obtain ⟨r, m⟩ := d
        simp only at hw
        have h0 : ((m : Int) == 0) = false := by simp; omega
        have hm : (p : Int) + m ≤ l.length := by omega
        have HD := Lib.hid hd
        have HW := Lib.hid hw
        clear hd hw
        go_wp2
        go_roundw
        case rel => exact ⟨p + m, by omega, by go_num, by rw [← HK.out.1, HC.out, HO.out.1]; rfl, HK.out.2.trans' k1⟩
        case measure => have := HW.out; simp [intOf]; omega
    · obtain rfl : p = l.length := by omega
      go_wp2
      go_ret
      refine ⟨ret_B ?_, HK.out.2⟩
      rw [← HK.out.1, List.drop_length]; rfl
end Go.Proofs.YthooohempokchaaDoor
