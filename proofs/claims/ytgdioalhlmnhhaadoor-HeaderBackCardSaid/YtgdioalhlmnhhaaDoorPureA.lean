/- Walks and lemmas on the program of this seat, used by its statements; each theorem bears its own conditions. -/
import Derived.Lib.DecodeNEq
import Derived.Lib.TrimU
import Derived.Lib.ValidU
import Derived.Lib.RuneBytes
namespace Go.Proofs.YtgdioalhlmnhhaaDoor
open Go.RowKit
set_option linter.unusedVariables false
set_option linter.unusedSimpArgs false
namespace WX
open Go.Lib
set_option maxRecDepth 100000
set_option linter.unusedVariables false
set_option linter.unusedSimpArgs false
/-! ### Characters -/
def at8 (l : List UInt8) (i : Nat) : Nat := (l.getD i 0).toNat
def dec (l : List UInt8) : Nat × Nat := decodeN l.length (at8 l 0) (at8 l 1) (at8 l 2) (at8 l 3)
theorem at8_lt (l : List UInt8) (i : Nat) : at8 l i < 256 := UInt8.toNat_lt _
theorem get_bang (s : ByteArray) (i : Nat) : s.get! i = s.data.toList.getD i 0 := by
  show s.data[i]! = _
  rw [getElem!_def, List.getD_eq_getElem?_getD, Array.getElem?_toList]
  cases s.data[i]? <;> rfl
theorem at8_drop (l : List UInt8) (p i : Nat) : at8 (l.drop p) i = at8 l (p + i) := by
  unfold at8; simp [List.getD_eq_getElem?_getD]
theorem decode_dec (s : ByteArray) (p : Nat) : Utf8.decode s p = dec (s.data.toList.drop p) := by
  rw [decode_at]
  unfold dec
  simp only [at8_drop, get_bang, Nat.add_zero, List.length_drop, Array.length_toList]
  rfl
theorem decodeL_dec (l : List UInt8) : decodeL l = dec l := by
  unfold decodeL; rw [decode_dec]; rfl
/-- valid -/
def isOk (l : List UInt8) : Bool := !((dec l).1 == 65533 && (dec l).2 == 1)
theorem u8_of {x : Int} {c : UInt8} (h : x = c.toNat) : x.toNat.toUInt8 = c := by
  subst h; simp
theorem at8_0 (a : UInt8) (t : List UInt8) : at8 (a :: t) 0 = a.toNat := rfl
theorem at8_1 (a b : UInt8) (t : List UInt8) : at8 (a :: b :: t) 1 = b.toNat := rfl
theorem at8_2 (a b c : UInt8) (t : List UInt8) : at8 (a :: b :: c :: t) 2 = c.toNat := rfl
theorem at8_3 (a b c d : UInt8) (t : List UInt8) : at8 (a :: b :: c :: d :: t) 3 = d.toNat := rfl
theorem dec_width (l : List UInt8) (h : l ≠ []) : 1 ≤ (dec l).2 ∧ (dec l).2 ≤ 4 ∧ (dec l).2 ≤ l.length := by
  have hl := List.length_pos_iff.2 h
  unfold dec decodeN
  repeat' split
  all_goals (simp only; omega)
theorem dec_rune_le (l : List UInt8) : (dec l).1 ≤ 1114111 := decodeN_rune_le _ _ _ _ _ (at8_lt _ _)
theorem dN1 {n b0 b1 b2 b3 : Nat} (h : b0 < 128) : decodeN n b0 b1 b2 b3 = (b0, 1) := by
  unfold decodeN; rw [if_pos h]
theorem dN2 {n b0 b1 b2 b3 : Nat} (h : 194 ≤ b0 ∧ b0 < 224) (hn : 2 ≤ n) (h1 : b1 / 64 = 2) : decodeN n b0 b1 b2 b3 = (b0 % 32 * 64 + b1 % 64, 2) := by
  unfold decodeN
  rw [if_neg (by omega), if_pos ⟨by omega, by omega, by omega⟩, if_pos (by omega)]
theorem dN3 {n b0 b1 b2 b3 : Nat} (h : b0 / 16 = 14) (hn : 3 ≤ n) (h1 : b1 / 64 = 2) (h2 : b2 / 64 = 2) (h3 : 2048 ≤ b0 % 16 * 4096 + b1 % 64 * 64 + b2 % 64)
    (h4 : b0 % 16 * 4096 + b1 % 64 * 64 + b2 % 64 < 55296 ∨ 57344 ≤ b0 % 16 * 4096 + b1 % 64 * 64 + b2 % 64) (hb : b0 < 256) : decodeN n b0 b1 b2 b3 = (b0 % 16 * 4096 + b1 % 64 * 64 + b2 % 64, 3) := by
  unfold decodeN
  rw [if_neg (by omega), if_neg (by omega), if_pos ⟨by omega, ⟨by omega, by omega⟩, by omega, by omega⟩, if_pos ⟨by omega, by omega⟩]
theorem dN4 {n b0 b1 b2 b3 : Nat} (h : b0 / 8 = 30) (hn : 4 ≤ n) (h1 : b1 / 64 = 2) (h2 : b2 / 64 = 2) (h3 : b3 / 64 = 2) (h4 : 65536 ≤ b0 % 8 * 262144 + b1 % 64 * 4096 + b2 % 64 * 64 + b3 % 64)
    (h5 : b0 % 8 * 262144 + b1 % 64 * 4096 + b2 % 64 * 64 + b3 % 64 ≤ 1114111) : decodeN n b0 b1 b2 b3 = (b0 % 8 * 262144 + b1 % 64 * 4096 + b2 % 64 * 64 + b3 % 64, 4) := by
  unfold decodeN
  rw [if_neg (by omega), if_neg (by omega), if_neg (by omega), if_pos ⟨by omega, ⟨by omega, by omega⟩, ⟨by omega, by omega⟩, by omega, by omega⟩, if_pos ⟨by omega, by omega⟩]
theorem dec_1 {a : UInt8} {t : List UInt8} (h : a.toNat < 128) : dec (a :: t) = (a.toNat, 1) := dN1 h
theorem dec_2 {a b : UInt8} {t : List UInt8} (h : 194 ≤ a.toNat ∧ a.toNat < 224) (h1 : b.toNat / 64 = 2) : dec (a :: b :: t) = (a.toNat % 32 * 64 + b.toNat % 64, 2) :=
  dN2 (b0 := a.toNat) (b1 := b.toNat) h (by simp) h1
theorem dec_3 {a b c : UInt8} {t : List UInt8} (h : a.toNat / 16 = 14) (h1 : b.toNat / 64 = 2) (h2 : c.toNat / 64 = 2) (h3 : 2048 ≤ a.toNat % 16 * 4096 + b.toNat % 64 * 64 + c.toNat % 64)
    (h4 : a.toNat % 16 * 4096 + b.toNat % 64 * 64 + c.toNat % 64 < 55296 ∨ 57344 ≤ a.toNat % 16 * 4096 + b.toNat % 64 * 64 + c.toNat % 64) : dec (a :: b :: c :: t) = (a.toNat % 16 * 4096 + b.toNat % 64 * 64 + c.toNat % 64, 3) :=
  dN3 (b0 := a.toNat) (b1 := b.toNat) (b2 := c.toNat) h (by simp) h1 h2 h3 h4 a.toNat_lt
theorem dec_4 {a b c d : UInt8} {t : List UInt8} (h : a.toNat / 8 = 30) (h1 : b.toNat / 64 = 2) (h2 : c.toNat / 64 = 2) (h3 : d.toNat / 64 = 2) (h4 : 65536 ≤ a.toNat % 8 * 262144 + b.toNat % 64 * 4096 + c.toNat % 64 * 64 + d.toNat % 64)
    (h5 : a.toNat % 8 * 262144 + b.toNat % 64 * 4096 + c.toNat % 64 * 64 + d.toNat % 64 ≤ 1114111) : dec (a :: b :: c :: d :: t) = (a.toNat % 8 * 262144 + b.toNat % 64 * 4096 + c.toNat % 64 * 64 + d.toNat % 64, 4) :=
  dN4 (b0 := a.toNat) (b1 := b.toNat) (b2 := c.toNat) (b3 := d.toNat) h (by simp) h1 h2 h3 h4 h5
set_option maxHeartbeats 2000000 in
/-- The forms of a character. -/
theorem dec_cases (l : List UInt8) (h : l ≠ []) :
    (∃ a t, l = a :: t ∧ a.toNat < 128 ∧ dec l = (a.toNat, 1)) ∨
    (∃ a b t, l = a :: b :: t ∧ 194 ≤ a.toNat ∧ a.toNat < 224 ∧ b.toNat / 64 = 2 ∧ dec l = (a.toNat % 32 * 64 + b.toNat % 64, 2)) ∨
    (∃ a b c t, l = a :: b :: c :: t ∧ a.toNat / 16 = 14 ∧ b.toNat / 64 = 2 ∧ c.toNat / 64 = 2 ∧ 2048 ≤ a.toNat % 16 * 4096 + b.toNat % 64 * 64 + c.toNat % 64 ∧
      (a.toNat % 16 * 4096 + b.toNat % 64 * 64 + c.toNat % 64 < 55296 ∨ 57344 ≤ a.toNat % 16 * 4096 + b.toNat % 64 * 64 + c.toNat % 64) ∧ dec l = (a.toNat % 16 * 4096 + b.toNat % 64 * 64 + c.toNat % 64, 3)) ∨
    (∃ a b c d t, l = a :: b :: c :: d :: t ∧ a.toNat / 8 = 30 ∧ b.toNat / 64 = 2 ∧ c.toNat / 64 = 2 ∧ d.toNat / 64 = 2 ∧ 65536 ≤ a.toNat % 8 * 262144 + b.toNat % 64 * 4096 + c.toNat % 64 * 64 + d.toNat % 64 ∧
      a.toNat % 8 * 262144 + b.toNat % 64 * 4096 + c.toNat % 64 * 64 + d.toNat % 64 ≤ 1114111 ∧ dec l = (a.toNat % 8 * 262144 + b.toNat % 64 * 4096 + c.toNat % 64 * 64 + d.toNat % 64, 4)) ∨
    (dec l = (65533, 1) ∧ 128 ≤ at8 l 0 ∧
      ¬ (194 ≤ at8 l 0 ∧ at8 l 0 < 224 ∧ 2 ≤ l.length ∧ at8 l 1 / 64 = 2) ∧
      ¬ (at8 l 0 / 16 = 14 ∧ 3 ≤ l.length ∧ at8 l 1 / 64 = 2 ∧ at8 l 2 / 64 = 2 ∧ 2048 ≤ at8 l 0 % 16 * 4096 + at8 l 1 % 64 * 64 + at8 l 2 % 64 ∧
        (at8 l 0 % 16 * 4096 + at8 l 1 % 64 * 64 + at8 l 2 % 64 < 55296 ∨ 57344 ≤ at8 l 0 % 16 * 4096 + at8 l 1 % 64 * 64 + at8 l 2 % 64)) ∧
      ¬ (at8 l 0 / 8 = 30 ∧ 4 ≤ l.length ∧ at8 l 1 / 64 = 2 ∧ at8 l 2 / 64 = 2 ∧ at8 l 3 / 64 = 2 ∧ 65536 ≤ at8 l 0 % 8 * 262144 + at8 l 1 % 64 * 4096 + at8 l 2 % 64 * 64 + at8 l 3 % 64 ∧
        at8 l 0 % 8 * 262144 + at8 l 1 % 64 * 4096 + at8 l 2 % 64 * 64 + at8 l 3 % 64 ≤ 1114111)) := by
  have hl := List.length_pos_iff.2 h
  have b0 := at8_lt l 0
  have b1 := at8_lt l 1
  have b2 := at8_lt l 2
  have b3 := at8_lt l 3
  by_cases c1 : at8 l 0 < 128
  · left
    cases l with
    | nil => exact absurd rfl h
    | cons a t => exact ⟨a, t, rfl, c1, dec_1 c1⟩
  by_cases c2 : 194 ≤ at8 l 0 ∧ at8 l 0 < 224 ∧ 2 ≤ l.length ∧ at8 l 1 / 64 = 2
  · right; left
    match l, c2 with
    | a :: b :: t, c2 =>
      rw [at8_0, at8_1] at c2
      exact ⟨a, b, t, rfl, c2.1, c2.2.1, c2.2.2.2, dec_2 ⟨c2.1, c2.2.1⟩ c2.2.2.2⟩
  by_cases c3 : at8 l 0 / 16 = 14 ∧ 3 ≤ l.length ∧ at8 l 1 / 64 = 2 ∧ at8 l 2 / 64 = 2 ∧ 2048 ≤ at8 l 0 % 16 * 4096 + at8 l 1 % 64 * 64 + at8 l 2 % 64 ∧
        (at8 l 0 % 16 * 4096 + at8 l 1 % 64 * 64 + at8 l 2 % 64 < 55296 ∨ 57344 ≤ at8 l 0 % 16 * 4096 + at8 l 1 % 64 * 64 + at8 l 2 % 64)
  · right; right; left
    match l, c3 with
    | a :: b :: c :: t, c3 =>
      rw [at8_0, at8_1, at8_2] at c3
      exact ⟨a, b, c, t, rfl, c3.1, c3.2.2.1, c3.2.2.2.1, c3.2.2.2.2.1, c3.2.2.2.2.2, dec_3 c3.1 c3.2.2.1 c3.2.2.2.1 c3.2.2.2.2.1 c3.2.2.2.2.2⟩
  by_cases c4 : at8 l 0 / 8 = 30 ∧ 4 ≤ l.length ∧ at8 l 1 / 64 = 2 ∧ at8 l 2 / 64 = 2 ∧ at8 l 3 / 64 = 2 ∧ 65536 ≤ at8 l 0 % 8 * 262144 + at8 l 1 % 64 * 4096 + at8 l 2 % 64 * 64 + at8 l 3 % 64 ∧
        at8 l 0 % 8 * 262144 + at8 l 1 % 64 * 4096 + at8 l 2 % 64 * 64 + at8 l 3 % 64 ≤ 1114111
  · right; right; right; left
    match l, c4 with
    | a :: b :: c :: d :: t, c4 =>
      rw [at8_0, at8_1, at8_2, at8_3] at c4
      exact ⟨a, b, c, d, t, rfl, c4.1, c4.2.2.1, c4.2.2.2.1, c4.2.2.2.2.1, c4.2.2.2.2.2.1, c4.2.2.2.2.2.2, dec_4 c4.1 c4.2.2.1 c4.2.2.2.1 c4.2.2.2.2.1 c4.2.2.2.2.2.1 c4.2.2.2.2.2.2⟩
  right; right; right; right
  refine ⟨?_, by omega, c2, c3, c4⟩
  unfold dec decodeN
  repeat' split
  all_goals first | (exfalso; omega) | rfl
theorem isOk_of {l : List UInt8} {r k : Nat} (h : dec l = (r, k)) (hk : r ≠ 65533 ∨ k ≠ 1) : isOk l = true := by
  unfold isOk; rw [h]; simp; omega
theorem not_ok {l : List UInt8} (h : dec l = (65533, 1)) : isOk l = false := by unfold isOk; rw [h]; rfl
/-- A character's bytes are its encoding. -/
theorem enc_dec (l : List UInt8) (h : l ≠ []) (ho : isOk l = true) : encodeRune (dec l).1 = l.take (dec l).2 := by
  rcases dec_cases l h with ⟨a, t, rfl, h1, e⟩ | ⟨a, b, t, rfl, h1, h2, h3, e⟩ | ⟨a, b, c, t, rfl, h1, h2, h3, h4, h5, e⟩ | ⟨a, b, c, d, t, rfl, h1, h2, h3, h4, h5, h6, e⟩ | ⟨e, _⟩
  · rw [e]
    have := encodeRuneZ_one (r := (a.toNat : Int)) (by omega) (by omega)
    simp only [encodeRune, this, List.map_cons, List.map_nil, u8_of rfl, List.take_succ_cons, List.take_zero]
  · rw [e]
    have := encodeRuneZ_two (r := ((a.toNat % 32 * 64 + b.toNat % 64 : Nat) : Int)) (by omega) (by omega)
    simp only [encodeRune, this, List.map_cons, List.map_nil, List.take_succ_cons, List.take_zero]
    rw [u8_of (c := a) (by omega), u8_of (c := b) (by omega)]
  · rw [e]
    have := a.toNat_lt
    have := encodeRuneZ_three (r := ((a.toNat % 16 * 4096 + b.toNat % 64 * 64 + c.toNat % 64 : Nat) : Int)) (by omega)
    simp only [encodeRune, this, List.map_cons, List.map_nil, List.take_succ_cons, List.take_zero]
    rw [u8_of (c := a) (by omega), u8_of (c := b) (by omega), u8_of (c := c) (by omega)]
  · rw [e]
    have := encodeRuneZ_four (r := ((a.toNat % 8 * 262144 + b.toNat % 64 * 4096 + c.toNat % 64 * 64 + d.toNat % 64 : Nat) : Int)) (by omega) (by omega)
    simp only [encodeRune, this, List.map_cons, List.map_nil, List.take_succ_cons, List.take_zero]
    rw [u8_of (c := a) (by omega), u8_of (c := b) (by omega), u8_of (c := c) (by omega), u8_of (c := d) (by omega)]
  · rw [not_ok e] at ho; cases ho
/-- A character is the same whatever stands behind it. -/
theorem dec_take (l x : List UInt8) (h : l ≠ []) (ho : isOk l = true) : dec (l.take (dec l).2 ++ x) = dec l := by
  rcases dec_cases l h with ⟨a, t, rfl, h1, e⟩ | ⟨a, b, t, rfl, h1, h2, h3, e⟩ | ⟨a, b, c, t, rfl, h1, h2, h3, h4, h5, e⟩ | ⟨a, b, c, d, t, rfl, h1, h2, h3, h4, h5, h6, e⟩ | ⟨e, _⟩
  · rw [e]; exact dec_1 h1
  · rw [e]; exact dec_2 ⟨h1, h2⟩ h3
  · rw [e]; exact dec_3 h1 h2 h3 h4 h5
  · rw [e]; exact dec_4 h1 h2 h3 h4 h5 h6
  · rw [not_ok e] at ho; cases ho
/-- A character beyond 127 has only bytes beyond 127. -/
theorem dec_high (l : List UInt8) (h : l ≠ []) (ho : isOk l = true) : (∃ a t, l = a :: t ∧ a.toNat < 128 ∧ dec l = (a.toNat, 1)) ∨ (128 ≤ (dec l).1 ∧ 2 ≤ (dec l).2 ∧ ∀ c ∈ l.take (dec l).2, 128 ≤ c.toNat) := by
  rcases dec_cases l h with ⟨a, t, rfl, h1, e⟩ | ⟨a, b, t, rfl, h1, h2, h3, e⟩ | ⟨a, b, c, t, rfl, h1, h2, h3, h4, h5, e⟩ | ⟨a, b, c, d, t, rfl, h1, h2, h3, h4, h5, h6, e⟩ | ⟨e, _⟩
  · exact .inl ⟨a, t, rfl, h1, e⟩
  · right; rw [e]; refine ⟨by simp only; omega, by simp, fun x hx => ?_⟩
    simp at hx; rcases hx with rfl | rfl <;> omega
  · right; rw [e]; refine ⟨by simp only; omega, by simp, fun x hx => ?_⟩
    simp at hx; rcases hx with rfl | rfl | rfl <;> omega
  · right; rw [e]; refine ⟨by simp only; omega, by simp, fun x hx => ?_⟩
    simp at hx; rcases hx with rfl | rfl | rfl | rfl <;> omega
  · rw [not_ok e] at ho; cases ho
def runeLen (r : Nat) : Nat := if r < 128 then 1 else if r < 2048 then 2 else if r < 65536 then 3 else 4
theorem len_dec (l : List UInt8) (h : l ≠ []) (ho : isOk l = true) : runeLen (dec l).1 = (dec l).2 := by
  rcases dec_cases l h with ⟨a, t, rfl, h1, e⟩ | ⟨a, b, t, rfl, h1, h2, h3, e⟩ | ⟨a, b, c, t, rfl, h1, h2, h3, h4, h5, e⟩ | ⟨a, b, c, d, t, rfl, h1, h2, h3, h4, h5, h6, e⟩ | ⟨e, _⟩
  · rw [e]; unfold runeLen; simp only; rw [if_pos (by omega)]
  · rw [e]; unfold runeLen; simp only; rw [if_neg (by omega), if_pos (by omega)]
  · have := a.toNat_lt; rw [e]; unfold runeLen; simp only; rw [if_neg (by omega), if_neg (by omega), if_pos (by omega)]
  · rw [e]; unfold runeLen; simp only; rw [if_neg (by omega), if_neg (by omega), if_neg (by omega)]
  · rw [not_ok e] at ho; cases ho
/-- Where U+FFFD comes out, it stands there, or nothing does. -/
theorem dec_fffd (l : List UInt8) (h : l ≠ []) (h1 : (dec l).1 = 65533) : isOk l = true ↔ l.take 3 = [239, 191, 189] := by
  constructor
  · intro ho
    have e := enc_dec l h ho
    have w := len_dec l h ho
    rw [h1] at e w
    rw [← w] at e
    have h3 : runeLen 65533 = 3 := by decide
    rw [h3] at e
    rw [← e]; decide
  · intro e
    match l, e with
    | a :: b :: c :: t, e =>
      simp at e
      obtain ⟨rfl, rfl, rfl⟩ := e
      exact isOk_of (r := 65533) (k := 3) (dec_3 (by decide) (by decide) (by decide) (by decide) (by decide)) (by decide)
/-! ### A text's characters -/
/-- what stands at the head: a character, or a byte that is none; its bytes -/
def unit1 (l : List UInt8) : Option Nat × List UInt8 := (if isOk l then some (dec l).1 else none, l.take (dec l).2)
def unitsF : Nat → List UInt8 → List (Option Nat × List UInt8)
  | 0, _ => []
  | f + 1, l => if l.isEmpty then [] else unit1 l :: unitsF f (l.drop (dec l).2)
def units (l : List UInt8) : List (Option Nat × List UInt8) := unitsF l.length l
theorem unitsF_more (f : Nat) : ∀ (l : List UInt8) (g : Nat), l.length ≤ f → l.length ≤ g → unitsF f l = unitsF g l := by
  induction f with
  | zero =>
    intro l g h _
    have : l = [] := List.eq_nil_of_length_eq_zero (by omega)
    subst this
    cases g <;> simp [unitsF]
  | succ f ih =>
    intro l g h hg
    by_cases he : l = []
    · subst he; cases g <;> simp [unitsF]
    · have hw := dec_width l he
      have hl := List.length_pos_iff.2 he
      obtain ⟨g, rfl⟩ : ∃ k, g = k + 1 := ⟨g - 1, by omega⟩
      simp only [unitsF]
      rw [ih (l.drop (dec l).2) g (by simp; omega) (by simp; omega)]
theorem units_nil : units [] = [] := rfl
theorem units_cons (l : List UInt8) (h : l ≠ []) : units l = unit1 l :: units (l.drop (dec l).2) := by
  have hw := dec_width l h
  have hl := List.length_pos_iff.2 h
  unfold units
  obtain ⟨f, hf⟩ : ∃ k, l.length = k + 1 := ⟨l.length - 1, by omega⟩
  rw [hf, unitsF]
  have he : l.isEmpty = false := by cases l; exact absurd rfl h; rfl
  rw [he]
  simp only [Bool.false_eq_true, if_false]
  rw [unitsF_more f _ (l.drop (dec l).2).length (by simp; omega) (Nat.le_refl _)]
/-- An induction over characters. -/
theorem units_rec {P : List UInt8 → Prop} (h0 : P []) (hs : ∀ l, l ≠ [] → P (l.drop (dec l).2) → P l) : ∀ l, P l := by
  intro l
  suffices H : ∀ n (l : List UInt8), l.length ≤ n → P l from H l.length l (Nat.le_refl _)
  intro n
  induction n with
  | zero => intro l hl; rw [List.eq_nil_of_length_eq_zero (show l.length = 0 by omega)]; exact h0
  | succ n ih =>
    intro l hl
    by_cases he : l = []
    · rw [he]; exact h0
    · have hw := dec_width l he
      exact hs l he (ih _ (by simp; omega))
theorem units_bytes (l : List UInt8) : (units l).flatMap (·.2) = l := by
  induction l using units_rec with
  | h0 => rfl
  | hs l h ih => rw [units_cons l h, List.flatMap_cons, ih]; exact List.take_append_drop _ _
def textB (l : List UInt8) : Bool := (units l).all (·.1.isSome)
theorem textB_cons (l : List UInt8) (h : l ≠ []) : textB l = (isOk l && textB (l.drop (dec l).2)) := by
  unfold textB; rw [units_cons l h, List.all_cons]; unfold unit1; cases isOk l <;> rfl
theorem units_append (a b : List UInt8) (ha : textB a = true) : units (a ++ b) = units a ++ units b := by
  induction a using units_rec with
  | h0 => rfl
  | hs a h ih =>
    rw [textB_cons a h, Bool.and_eq_true] at ha
    have hne : a ++ b ≠ [] := by simp [h]
    have hw := dec_width a h
    have hd : dec (a ++ b) = dec a := by
      have := dec_take a (a.drop (dec a).2 ++ b) h ha.1
      rwa [← List.append_assoc, List.take_append_drop] at this
    have hok : isOk (a ++ b) = isOk a := by unfold isOk; rw [hd]
    rw [units_cons _ hne, units_cons a h, hd, List.cons_append]
    have hu : unit1 (a ++ b) = unit1 a := by
      unfold unit1; rw [hok, hd, List.take_append_of_le_length (by omega)]
    rw [hu, List.drop_append_of_le_length (by omega), ih ha.2]
theorem textB_append (a b : List UInt8) (ha : textB a = true) : textB (a ++ b) = textB b := by
  unfold textB at *; rw [units_append a b ha, List.all_append, ha, Bool.true_and]
/-- A character is a text of one character. -/
theorem units_one (l : List UInt8) (h : l ≠ []) (ho : isOk l = true) : units (l.take (dec l).2) = [(some (dec l).1, l.take (dec l).2)] := by
  have hw := dec_width l h
  have hd : dec (l.take (dec l).2) = dec l := by
    have := dec_take l [] h ho
    rwa [List.append_nil] at this
  have hne : l.take (dec l).2 ≠ [] := by
    intro e; have h2 := congrArg List.length e; rw [List.length_take, List.length_nil] at h2; omega
  have hok : isOk (l.take (dec l).2) = true := by unfold isOk; rw [hd]; exact ho
  rw [units_cons _ hne]
  have h1 : (l.take (dec l).2).drop (dec (l.take (dec l).2)).2 = [] := by rw [hd]; apply List.drop_eq_nil_of_le; simp; omega
  rw [h1, units_nil]
  unfold unit1
  rw [hok, hd, List.take_take, Nat.min_self]; rfl
/-- What a unit may be. -/
def unitOk (u : Option Nat × List UInt8) : Prop :=
  match u with
  | (none, s) => ∃ c : UInt8, 128 ≤ c.toNat ∧ s = [c]
  | (some r, s) => (∃ c : UInt8, c.toNat < 128 ∧ r = c.toNat ∧ s = [c]) ∨ (128 ≤ r ∧ s ≠ [] ∧ ∀ c ∈ s, 128 ≤ c.toNat)
theorem unit1_ok (l : List UInt8) (h : l ≠ []) : unitOk (unit1 l) := by
  have hw := dec_width l h
  unfold unit1
  by_cases ho : isOk l = true
  · rw [if_pos ho]
    rcases dec_high l h ho with ⟨a, t, rfl, h1, e⟩ | ⟨h1, h2, h3⟩
    · left; rw [e]; exact ⟨a, h1, rfl, rfl⟩
    · right; exact ⟨h1, by intro e; have h2 := congrArg List.length e; rw [List.length_take, List.length_nil] at h2; omega, h3⟩
  · rw [if_neg ho]
    rcases dec_cases l h with ⟨a, t, rfl, h1, e⟩ | ⟨a, b, t, rfl, h1, h2, h3, e⟩ | ⟨a, b, c, t, rfl, h1, h2, h3, h4, h5, e⟩ | ⟨a, b, c, d, t, rfl, h1, h2, h3, h4, h5, h6, e⟩ | ⟨e, h1, _⟩
    · exact absurd (isOk_of e (by have := h1; omega)) ho
    · exact absurd (isOk_of e (by omega)) ho
    · exact absurd (isOk_of e (by omega)) ho
    · exact absurd (isOk_of e (by omega)) ho
    · match l, h with
      | a :: t, _ => rw [e]; exact ⟨a, h1, rfl⟩
theorem units_ok (l : List UInt8) : ∀ u ∈ units l, unitOk u := by
  induction l using units_rec with
  | h0 => intro u hu; simp [units_nil] at hu
  | hs l h ih =>
    intro u hu
    rw [units_cons l h, List.mem_cons] at hu
    rcases hu with rfl | hu
    · exact unit1_ok l h
    · exact ih u hu
theorem units_text (l : List UInt8) : ∀ u ∈ units l, u.1.isSome = true → units u.2 = [u] := by
  induction l using units_rec with
  | h0 => intro u hu; simp [units_nil] at hu
  | hs l h ih =>
    intro u hu
    rw [units_cons l h, List.mem_cons] at hu
    rcases hu with rfl | hu
    · intro hs
      unfold unit1 at hs ⊢
      by_cases ho : isOk l = true
      · rw [if_pos ho]; exact units_one l h ho
      · rw [if_neg ho] at hs; cases hs
    · exact ih u hu
/-! ### Names -/
def plainN (r : Nat) : Bool := decide ((32 ≤ r ∧ r < 127 ∧ r ≠ 92) ∨ 160 ≤ r)
def nameU (u : Option Nat × List UInt8) : Bool := match u.1 with | some r => plainN r && r != 47 | none => false
def nameB (l : List UInt8) : Bool := !l.isEmpty && decide (l.length ≤ 24) && l != [46] && l != [46, 46] && (units l).all nameU
theorem nameB_text {l : List UInt8} (h : nameB l = true) : textB l = true := by
  unfold nameB at h
  simp only [Bool.and_eq_true] at h
  unfold textB
  rw [List.all_eq_true] at *
  intro u hu
  have := h.2 u hu
  unfold nameU at this
  cases hx : u.1 with
  | none => rw [hx] at this; cases this
  | some r => rfl
/-- A byte of a name. -/
theorem nameB_bytes {l : List UInt8} (h : nameB l = true) : ∀ c ∈ l, 32 ≤ c.toNat ∧ c.toNat ≠ 47 ∧ c.toNat ≠ 92 ∧ c.toNat ≠ 127 := by
  unfold nameB at h
  simp only [Bool.and_eq_true] at h
  have h2 := h.2
  intro c hc
  rw [← units_bytes l, List.mem_flatMap] at hc
  obtain ⟨u, hu, hcu⟩ := hc
  have h3 := List.all_eq_true.1 h2 u hu
  have h4 := units_ok l u hu
  obtain ⟨o, s⟩ := u
  cases o with
  | none => cases h3
  | some r =>
    simp only [nameU, plainN, Bool.and_eq_true, decide_eq_true_eq, bne_iff_ne] at h3
    rcases h4 with ⟨c', h5, h6, h7⟩ | ⟨h5, _, h6⟩
    · subst h7; simp at hcu; subst hcu; omega
    · have := h6 c hcu; omega
/-! ### Escapes -/
def hexd (n : Nat) : UInt8 := if n < 10 then UInt8.ofNat (48 + n) else UInt8.ofNat (87 + n)
def hex2 (c : UInt8) : List UInt8 := [92, 120, hexd (c.toNat / 16), hexd (c.toNat % 16)]
def escU (u : Option Nat × List UInt8) : List UInt8 :=
  match u.1 with
  | some r => if r = 92 then [92, 92] else if r = 10 then [92, 110] else if plainN r then u.2 else u.2.flatMap hex2
  | none => u.2.flatMap hex2
def escL (l : List UInt8) : List UInt8 := (units l).flatMap escU
theorem escL_nil : escL [] = [] := rfl
theorem escL_cons (l : List UInt8) (h : l ≠ []) : escL l = escU (unit1 l) ++ escL (l.drop (dec l).2) := by
  unfold escL; rw [units_cons l h, List.flatMap_cons]
theorem escL_pieces (a b : List UInt8) (ha : textB a = true) : escL (a ++ b) = escL a ++ escL b := by
  unfold escL; rw [units_append a b ha, List.flatMap_append]
theorem flatMap_id (f : Option Nat × List UInt8 → List UInt8) : ∀ (us : List (Option Nat × List UInt8)), (∀ u ∈ us, f u = u.2) → us.flatMap f = us.flatMap (·.2) := by
  intro us
  induction us with
  | nil => intro _; rfl
  | cons u us ih => intro h; rw [List.flatMap_cons, List.flatMap_cons, h u (by simp), ih fun x hx => h x (by simp [hx])]
theorem escL_name {l : List UInt8} (h : nameB l = true) : escL l = l := by
  have h2 : (units l).all nameU = true := by unfold nameB at h; simp only [Bool.and_eq_true] at h; exact h.2
  unfold escL
  rw [flatMap_id escU (units l) ?_, units_bytes]
  intro u hu
  have h3 := List.all_eq_true.1 h2 u hu
  obtain ⟨o, s⟩ := u
  cases o with
  | none => cases h3
  | some r =>
    simp only [nameU, plainN, Bool.and_eq_true, decide_eq_true_eq, bne_iff_ne] at h3
    have hp : plainN r = true := by unfold plainN; rw [decide_eq_true_eq]; exact h3.1
    simp only [escU]
    rw [if_neg (by omega), if_neg (by omega), if_pos hp]
theorem hexd_ok : ∀ n, n < 16 → (48 ≤ (hexd n).toNat ∧ (hexd n).toNat ≤ 57) ∨ (97 ≤ (hexd n).toNat ∧ (hexd n).toNat ≤ 102) := by decide
/-- A printed byte. -/
def inked (c : UInt8) : Prop := 32 ≤ c.toNat ∧ c.toNat ≠ 127
theorem hex2_inked (c : UInt8) : ∀ x ∈ hex2 c, inked x ∧ x.toNat < 128 := by
  intro x hx
  have h1 := hexd_ok (c.toNat / 16) (by have := c.toNat_lt; omega)
  have h2 := hexd_ok (c.toNat % 16) (by omega)
  simp only [hex2, List.mem_cons, List.not_mem_nil, or_false] at hx
  unfold inked
  rcases hx with rfl | rfl | rfl | rfl
  · decide
  · decide
  · omega
  · omega
theorem ascii_text (l : List UInt8) (h : ∀ x ∈ l, x.toNat < 128) : textB l = true := by
  induction l using units_rec with
  | h0 => rfl
  | hs l hl ih =>
    rw [textB_cons l hl, ih (fun x hx => h x (List.mem_of_mem_drop hx)), Bool.and_true]
    rcases dec_cases l hl with ⟨a, t, rfl, h1, e⟩ | ⟨a, b, t, rfl, h1, h2, h3, e⟩ | ⟨a, b, c, t, rfl, h1, h2, h3, h4, h5, e⟩ | ⟨a, b, c, d, t, rfl, h1, h2, h3, h4, h5, h6, e⟩ | ⟨e, h1, _⟩
    · exact isOk_of e (by have := h1; omega)
    · exact isOk_of e (by omega)
    · exact isOk_of e (by omega)
    · exact isOk_of e (by omega)
    · match l, hl with
      | a :: t, _ => have := h a (by simp); rw [at8_0] at h1; omega
theorem escU_good (u : Option Nat × List UInt8) (hu : unitOk u) (ht : u.1.isSome = true → units u.2 = [u]) : textB (escU u) = true ∧ ∀ x ∈ escU u, inked x := by
  obtain ⟨o, s⟩ := u
  have hexs : ∀ s : List UInt8, textB (s.flatMap hex2) = true ∧ ∀ x ∈ s.flatMap hex2, inked x := fun s =>
    ⟨ascii_text _ (fun x hx => by obtain ⟨c, _, hx⟩ := List.mem_flatMap.1 hx; exact (hex2_inked c x hx).2), fun x hx => by obtain ⟨c, _, hx⟩ := List.mem_flatMap.1 hx; exact (hex2_inked c x hx).1⟩
  cases o with
  | none => exact hexs s
  | some r =>
    simp only [escU]
    split
    · exact ⟨ascii_text _ (by decide), by unfold inked; decide⟩
    split
    · exact ⟨ascii_text _ (by decide), by unfold inked; decide⟩
    split
    · rename_i h1 h2 h3
      refine ⟨by unfold textB; rw [ht rfl]; rfl, fun x hx => ?_⟩
      simp only [plainN, decide_eq_true_eq] at h3
      unfold inked
      rcases hu with ⟨c, h5, h6, h7⟩ | ⟨h5, _, h6⟩
      · subst h7; simp at hx; subst hx; omega
      · have := h6 x hx; omega
    · exact hexs s
theorem flatMap_text (us : List (Option Nat × List UInt8)) (f : Option Nat × List UInt8 → List UInt8) (h : ∀ u ∈ us, textB (f u) = true) : textB (us.flatMap f) = true := by
  induction us with
  | nil => rfl
  | cons u us ih => rw [List.flatMap_cons, textB_append _ _ (h u (by simp))]; exact ih fun x hx => h x (by simp [hx])
theorem escL_text (l : List UInt8) : textB (escL l) = true :=
  flatMap_text _ _ fun u hu => (escU_good u (units_ok l u hu) (units_text l u hu)).1
theorem escL_inked (l : List UInt8) : ∀ x ∈ escL l, inked x := by
  intro x hx
  obtain ⟨u, hu, hx⟩ := List.mem_flatMap.1 hx
  exact (escU_good u (units_ok l u hu) (units_text l u hu)).2 x hx
/-! ### What a text says -/
def digN (c : UInt8) : Int := if 48 ≤ c.toNat ∧ c.toNat ≤ 57 then (c.toNat : Int) - 48 else if 97 ≤ c.toNat ∧ c.toNat ≤ 102 then (c.toNat : Int) - 87 else -1
/-- what a text says, byte by byte; none: it says nothing -/
def sayF : Nat → List UInt8 → Option (List UInt8)
  | 0, _ => some []
  | _ + 1, [] => some []
  | f + 1, c :: s =>
    if c ≠ 92 then (sayF f s).map (c :: ·)
    else match s with
      | 92 :: t => (sayF f t).map (92 :: ·)
      | 110 :: t => (sayF f t).map (10 :: ·)
      | 120 :: a :: b :: t => if 0 ≤ digN a ∧ 0 ≤ digN b then (sayF f t).map (UInt8.ofNat (16 * (digN a).toNat + (digN b).toNat) :: ·) else none
      | _ => none
def say (l : List UInt8) : Option (List UInt8) := sayF l.length l
theorem sayF_more (f : Nat) : ∀ (l : List UInt8) (g : Nat), l.length ≤ f → l.length ≤ g → sayF f l = sayF g l := by
  induction f with
  | zero =>
    intro l g h _
    rw [List.eq_nil_of_length_eq_zero (show l.length = 0 by omega)]
    cases g <;> rfl
  | succ f ih =>
    intro l g h hg
    cases l with
    | nil => cases g <;> rfl
    | cons c s =>
      obtain ⟨g, rfl⟩ : ∃ k, g = k + 1 := ⟨g - 1, by simp at hg; omega⟩
      simp only [List.length_cons] at h hg
      have i : ∀ t : List UInt8, t.length ≤ s.length → sayF f t = sayF g t := fun t ht => ih t g (by omega) (by omega)
      unfold sayF
      by_cases hc : c ≠ 92
      · rw [if_pos hc, if_pos hc, i s (Nat.le_refl _)]
      · rw [if_neg hc, if_neg hc]
        split
        · rw [i _ (by simp)]
        · rw [i _ (by simp)]
        · rw [i _ (by simp; omega)]
        · rfl
theorem say_nil : say [] = some [] := rfl
theorem say_plain (c : UInt8) (s : List UInt8) (h : c ≠ 92) : say (c :: s) = (say s).map (c :: ·) := by
  show sayF (s.length + 1) (c :: s) = _
  unfold sayF; rw [if_pos h]; rfl
theorem say_92 (t : List UInt8) : say (92 :: 92 :: t) = (say t).map (92 :: ·) := by
  show sayF (t.length + 1 + 1) (92 :: 92 :: t) = _
  unfold sayF; rw [if_neg (by decide)]
  simp only
  rw [sayF_more _ t t.length (by omega) (Nat.le_refl _)]; rfl
theorem say_n (t : List UInt8) : say (92 :: 110 :: t) = (say t).map (10 :: ·) := by
  show sayF (t.length + 1 + 1) (92 :: 110 :: t) = _
  unfold sayF; rw [if_neg (by decide)]
  simp only
  rw [sayF_more _ t t.length (by omega) (Nat.le_refl _)]; rfl
theorem say_x (a b : UInt8) (t : List UInt8) : say (92 :: 120 :: a :: b :: t) = if 0 ≤ digN a ∧ 0 ≤ digN b then (say t).map (UInt8.ofNat (16 * (digN a).toNat + (digN b).toNat) :: ·) else none := by
  show sayF (t.length + 1 + 1 + 1 + 1) (92 :: 120 :: a :: b :: t) = _
  unfold sayF; rw [if_neg (by decide)]
  simp only
  rw [sayF_more _ t t.length (by omega) (Nat.le_refl _)]; rfl
theorem say_none (s : List UInt8) (h1 : ∀ t, s ≠ 92 :: t) (h2 : ∀ t, s ≠ 110 :: t) (h3 : ∀ a b t, s ≠ 120 :: a :: b :: t) : say (92 :: s) = none := by
  show sayF (s.length + 1) (92 :: s) = _
  unfold sayF; rw [if_neg (by decide)]
  split
  · exact absurd rfl (h1 _)
  · exact absurd rfl (h2 _)
  · exact absurd rfl (h3 _ _ _)
  · rfl
theorem digN_hexd : ∀ n, n < 16 → digN (hexd n) = n := by decide
theorem say_hex2 (c : UInt8) (t : List UInt8) : say (hex2 c ++ t) = (say t).map (c :: ·) := by
  have h := c.toNat_lt
  have h1 := digN_hexd (c.toNat / 16) (by omega)
  have h2 := digN_hexd (c.toNat % 16) (by omega)
  show say (92 :: 120 :: hexd (c.toNat / 16) :: hexd (c.toNat % 16) :: t) = _
  rw [say_x, h1, h2, if_pos (by omega)]
  have : UInt8.ofNat (16 * ((c.toNat / 16 : Nat) : Int).toNat + ((c.toNat % 16 : Nat) : Int).toNat) = c := by
    have e : 16 * ((c.toNat / 16 : Nat) : Int).toNat + ((c.toNat % 16 : Nat) : Int).toNat = c.toNat := by omega
    rw [e, UInt8.ofNat_toNat]
  rw [this]
theorem say_copy (s t : List UInt8) (h : ∀ c ∈ s, c ≠ 92) : say (s ++ t) = (say t).map (s ++ ·) := by
  induction s with
  | nil => simp
  | cons c s ih =>
    rw [List.cons_append, say_plain c _ (h c (by simp)), ih fun x hx => h x (by simp [hx])]
    cases say t <;> rfl
theorem say_hexs (s t : List UInt8) : say (s.flatMap hex2 ++ t) = (say t).map (s ++ ·) := by
  induction s with
  | nil => simp
  | cons c s ih =>
    rw [List.flatMap_cons, List.append_assoc, say_hex2, ih]
    cases say t <;> rfl
theorem say_unit (u : Option Nat × List UInt8) (hu : unitOk u) (t : List UInt8) : say (escU u ++ t) = (say t).map (u.2 ++ ·) := by
  obtain ⟨o, s⟩ := u
  cases o with
  | none => exact say_hexs s t
  | some r =>
    simp only [escU]
    split
    · rename_i h1
      rcases hu with ⟨c, h5, h6, h7⟩ | ⟨h5, _, _⟩
      · subst h7
        have : c = 92 := by rw [← UInt8.toNat_inj, ← h6, h1]; rfl
        subst this
        exact say_92 t
      · omega
    split
    · rename_i h1 h2
      rcases hu with ⟨c, h5, h6, h7⟩ | ⟨h5, _, _⟩
      · subst h7
        have : c = 10 := by rw [← UInt8.toNat_inj, ← h6, h2]; rfl
        subst this
        exact say_n t
      · omega
    split
    · rename_i h1 h2 h3
      refine say_copy s t fun x hx => ?_
      rcases hu with ⟨c, h5, h6, h7⟩ | ⟨h5, _, h6⟩
      · subst h7; simp at hx; subst hx; intro e; subst e; exact h1 h6
      · have := h6 x hx; intro e; subst e; revert this; decide
    · exact say_hexs s t
theorem say_units (us : List (Option Nat × List UInt8)) (h : ∀ u ∈ us, unitOk u) : say (us.flatMap escU) = some (us.flatMap (·.2)) := by
  induction us with
  | nil => rfl
  | cons u us ih => rw [List.flatMap_cons, List.flatMap_cons, say_unit u (h u (by simp)), ih fun x hx => h x (by simp [hx])]; rfl
theorem say_esc (l : List UInt8) : say (escL l) = some l := by
  have := say_units (units l) (units_ok l)
  rwa [units_bytes] at this
theorem escL_inj {a b : List UInt8} (h : escL a = escL b) : a = b := by
  have := say_esc a
  rw [h, say_esc] at this
  exact (Option.some.inj this).symm
/-- What a text says, if it is the escape of that. -/
def unesc (l : List UInt8) : Option (List UInt8) := match say l with | some t => if escL t = l then some t else none | none => none
theorem unesc_esc (l : List UInt8) : unesc (escL l) = some l := by unfold unesc; rw [say_esc]; simp
theorem unesc_some {l t : List UInt8} (h : unesc l = some t) : escL t = l := by
  unfold unesc at h
  split at h
  · split at h
    · rename_i h1; cases h; exact h1
    · cases h
  · cases h
/-! ### The reference's way -/
/-- its number of so many bytes -/
def guessZ (l : List UInt8) (many : Nat) : Int :=
  if many = 1 then at8 l 0 else if many = 2 then 64 * ((at8 l 0 : Int) - 192) + at8 l 1 - 128
  else if many = 3 then 64 * (64 * ((at8 l 0 : Int) - 224) + at8 l 1 - 128) + at8 l 2 - 128
  else 64 * (64 * (64 * ((at8 l 0 : Int) - 240) + at8 l 1 - 128) + at8 l 2 - 128) + at8 l 3 - 128
def isR (n : Int) : Bool := decide ((0 ≤ n ∧ n ≤ 55295) ∨ (57344 ≤ n ∧ n ≤ 1114111))
/-- is it so many bytes? -/
def hitB (l : List UInt8) (many : Nat) : Bool := isR (guessZ l many) && encodeRune (guessZ l many) == l.take many
theorem enc_len (n : Int) (h : isR n = true) : (encodeRune n).length = runeLen n.toNat := by
  simp only [isR, decide_eq_true_eq] at h
  unfold runeLen
  by_cases h1 : n ≤ 127
  · rw [encodeRune, encodeRuneZ_one (by omega) h1, if_pos (by omega)]; rfl
  by_cases h2 : n ≤ 2047
  · rw [encodeRune, encodeRuneZ_two (by omega) h2, if_neg (by omega), if_pos (by omega)]; rfl
  by_cases h3 : n ≤ 65535
  · rw [encodeRune, encodeRuneZ_three (by omega), if_neg (by omega), if_neg (by omega), if_pos (by omega)]; rfl
  · rw [encodeRune, encodeRuneZ_four (by omega) (by omega), if_neg (by omega), if_neg (by omega), if_neg (by omega)]; rfl
theorem enc_eq2 (n : Int) (a b : UInt8) (h1 : 128 ≤ n) (h2 : n ≤ 2047) : encodeRune n = [a, b] ↔ 192 + n / 64 = a.toNat ∧ 128 + n % 64 = b.toNat := by
  rw [encodeRune, encodeRuneZ_two h1 h2]
  simp only [List.map_cons, List.map_nil, List.cons.injEq, and_true]
  rw [← UInt8.toNat_inj, ← UInt8.toNat_inj]
  simp
  omega
theorem enc_eq3 (n : Int) (a b c : UInt8) (h : (2048 ≤ n ∧ n < 55296) ∨ (57343 < n ∧ n ≤ 65535)) : encodeRune n = [a, b, c] ↔ 224 + n / 4096 = a.toNat ∧ 128 + n / 64 % 64 = b.toNat ∧ 128 + n % 64 = c.toNat := by
  rw [encodeRune, encodeRuneZ_three h]
  simp only [List.map_cons, List.map_nil, List.cons.injEq, and_true]
  rw [← UInt8.toNat_inj, ← UInt8.toNat_inj, ← UInt8.toNat_inj]
  simp
  omega
theorem enc_eq4 (n : Int) (a b c d : UInt8) (h1 : 65536 ≤ n) (h2 : n ≤ 1114111) : encodeRune n = [a, b, c, d] ↔ 240 + n / 262144 = a.toNat ∧ 128 + n / 4096 % 64 = b.toNat ∧ 128 + n / 64 % 64 = c.toNat ∧ 128 + n % 64 = d.toNat := by
  rw [encodeRune, encodeRuneZ_four h1 h2]
  simp only [List.map_cons, List.map_nil, List.cons.injEq, and_true]
  rw [← UInt8.toNat_inj, ← UInt8.toNat_inj, ← UInt8.toNat_inj, ← UInt8.toNat_inj]
  simp
  omega
theorem guess_dec (l : List UInt8) (h : l ≠ []) (ho : isOk l = true) : guessZ l (dec l).2 = (dec l).1 := by
  rcases dec_cases l h with ⟨a, t, rfl, h1, e⟩ | ⟨a, b, t, rfl, h1, h2, h3, e⟩ | ⟨a, b, c, t, rfl, h1, h2, h3, h4, h5, e⟩ | ⟨a, b, c, d, t, rfl, h1, h2, h3, h4, h5, h6, e⟩ | ⟨e, _⟩
  · rw [e]; simp [guessZ, at8_0]
  · rw [e]; simp only [guessZ, at8_0, at8_1, show ¬ (2 : Nat) = 1 by decide, if_true, if_false]; have := b.toNat_lt; omega
  · rw [e]; simp only [guessZ, at8_0, at8_1, at8_2, show ¬ (3 : Nat) = 1 by decide, show ¬ (3 : Nat) = 2 by decide, if_true, if_false]; omega
  · rw [e]; simp only [guessZ, at8_0, at8_1, at8_2, at8_3, show ¬ (4 : Nat) = 1 by decide, show ¬ (4 : Nat) = 2 by decide, show ¬ (4 : Nat) = 3 by decide, if_true, if_false]; omega
  · rw [not_ok e] at ho; cases ho
/-- It is, of as many bytes as the character that stands there has, and of no other number. -/
theorem hit_iff (l : List UInt8) (h : l ≠ []) (many : Nat) (h1 : 1 ≤ many) (h4 : many ≤ 4) (hl : many ≤ l.length) :
    hitB l many = true ↔ isOk l = true ∧ (dec l).2 = many := by
  have b0 := at8_lt l 0
  have b1 := at8_lt l 1
  have b2 := at8_lt l 2
  have b3 := at8_lt l 3
  constructor
  · intro hh
    simp only [hitB, Bool.and_eq_true, beq_iff_eq] at hh
    obtain ⟨hr, he⟩ := hh
    have hn := enc_len _ hr
    have hlen := congrArg List.length he
    rw [hn, List.length_take, Nat.min_eq_left hl] at hlen
    simp only [isR, decide_eq_true_eq] at hr
    have hm : many = 1 ∨ many = 2 ∨ many = 3 ∨ many = 4 := by omega
    unfold runeLen at hlen
    rcases hm with rfl | rfl | rfl | rfl
    · match l, h with
      | a :: t, _ =>
        simp only [guessZ, at8_0, if_true] at *
        have ha : a.toNat < 128 := by
          by_cases hc : a.toNat < 128
          · exact hc
          · rw [if_neg (by omega)] at hlen
            split at hlen <;> first | omega | (split at hlen <;> omega)
        have e : dec (a :: t) = (a.toNat, 1) := dec_1 ha
        exact ⟨isOk_of e (by omega), by rw [e]⟩
    · match l, hl with
      | a :: b :: t, _ =>
        simp only [guessZ, at8_0, at8_1, show ¬ (2 : Nat) = 1 by decide, if_true, if_false] at *
        generalize hg : 64 * ((a.toNat : Int) - 192) + (b.toNat : Int) - 128 = n at *
        have hb : 128 ≤ n ∧ n ≤ 2047 := by
          by_cases c1 : n.toNat < 128
          · rw [if_pos c1] at hlen; omega
          rw [if_neg c1] at hlen
          by_cases c2 : n.toNat < 2048
          · omega
          rw [if_neg c2] at hlen
          split at hlen <;> omega
        have he2 := (enc_eq2 n a b hb.1 hb.2).1 (by simpa using he)
        have e : dec (a :: b :: t) = (a.toNat % 32 * 64 + b.toNat % 64, 2) := dec_2 (by omega) (by omega)
        exact ⟨isOk_of e (by omega), by rw [e]⟩
    · match l, hl with
      | a :: b :: c :: t, _ =>
        simp only [guessZ, at8_0, at8_1, at8_2, show ¬ (3 : Nat) = 1 by decide, show ¬ (3 : Nat) = 2 by decide, if_true, if_false] at *
        generalize hg : 64 * (64 * ((a.toNat : Int) - 224) + (b.toNat : Int) - 128) + (c.toNat : Int) - 128 = n at *
        have hb : 2048 ≤ n ∧ n ≤ 65535 := by
          by_cases c1 : n.toNat < 128
          · rw [if_pos c1] at hlen; omega
          rw [if_neg c1] at hlen
          by_cases c2 : n.toNat < 2048
          · rw [if_pos c2] at hlen; omega
          rw [if_neg c2] at hlen
          split at hlen <;> omega
        have he2 := (enc_eq3 n a b c (by omega)).1 (by simpa using he)
        have e : dec (a :: b :: c :: t) = (a.toNat % 16 * 4096 + b.toNat % 64 * 64 + c.toNat % 64, 3) := dec_3 (by omega) (by omega) (by omega) (by omega) (by omega)
        exact ⟨isOk_of e (by omega), by rw [e]⟩
    · match l, hl with
      | a :: b :: c :: d :: t, _ =>
        simp only [guessZ, at8_0, at8_1, at8_2, at8_3, show ¬ (4 : Nat) = 1 by decide, show ¬ (4 : Nat) = 2 by decide, show ¬ (4 : Nat) = 3 by decide, if_true, if_false] at *
        generalize hg : 64 * (64 * (64 * ((a.toNat : Int) - 240) + (b.toNat : Int) - 128) + (c.toNat : Int) - 128) + (d.toNat : Int) - 128 = n at *
        have hb : 65536 ≤ n ∧ n ≤ 1114111 := by
          by_cases c1 : n.toNat < 128
          · rw [if_pos c1] at hlen; omega
          rw [if_neg c1] at hlen
          by_cases c2 : n.toNat < 2048
          · rw [if_pos c2] at hlen; omega
          rw [if_neg c2] at hlen
          split at hlen <;> omega
        have he2 := (enc_eq4 n a b c d hb.1 hb.2).1 (by simpa using he)
        have e : dec (a :: b :: c :: d :: t) = (a.toNat % 8 * 262144 + b.toNat % 64 * 4096 + c.toNat % 64 * 64 + d.toNat % 64, 4) := dec_4 (by omega) (by omega) (by omega) (by omega) (by omega) (by omega)
        exact ⟨isOk_of e (by omega), by rw [e]⟩
  · rintro ⟨ho, hw⟩
    have he := enc_dec l h ho
    subst hw
    have hg : guessZ l (dec l).2 = (dec l).1 := guess_dec l h ho
    have hr : isR (dec l).1 = true := by
      simp only [isR, decide_eq_true_eq]
      rcases dec_cases l h with ⟨a, t, rfl, h1, e⟩ | ⟨a, b, t, rfl, h1, h2, h3, e⟩ | ⟨a, b, c, t, rfl, h1, h2, h3, h4, h5, e⟩ | ⟨a, b, c, d, t, rfl, h1, h2, h3, h4, h5, h6, e⟩ | ⟨e, _⟩
      · rw [e]; simp only; omega
      · rw [e]; simp only; omega
      · rw [e]; simp only; have := a.toNat_lt; omega
      · rw [e]; simp only; omega
      · rw [not_ok e] at ho; cases ho
    simp only [hitB, hg, hr, he, Bool.and_eq_true, beq_iff_eq]
    trivial
end WX
end Go.Proofs.YtgdioalhlmnhhaaDoor
