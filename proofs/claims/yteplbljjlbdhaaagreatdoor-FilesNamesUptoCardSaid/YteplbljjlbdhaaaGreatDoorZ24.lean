/- Walks and lemmas on the program of this seat, used by its statements; each theorem bears its own conditions. -/
import Derived.Lib.DecodeNEq
import Derived.Lib.TrimU
import Derived.Lib.ValidU
import Derived.Lib.RuneBytes
import Derived.Lib.SplitLaws
namespace Go.Proofs.YteplbljjlbdhaaaGreatDoor
open Go.RowKit
set_option linter.unusedVariables false
set_option linter.unusedSimpArgs false
set_option linter.unusedSectionVars false
set_option maxHeartbeats 16000000
set_option maxRecDepth 100000
section
namespace WX
open Go.Lib
def at8 (l : List UInt8) (i : Nat) : Nat := (l.getD i 0).toNat
def dec (l : List UInt8) : Nat × Nat := decodeN l.length (at8 l 0) (at8 l 1) (at8 l 2) (at8 l 3)
theorem at8_lt (l : List UInt8) (i : Nat) : at8 l i < 256 := UInt8.toNat_lt _
theorem get_bang (s : ByteArray) (i : Nat) : s.get! i = s.data.toList.getD i 0 := by
 show s.data[i]! = _
 rw [getElem!_def, List.getD_eq_getElem?_getD, Array.getElem?_toList]
 cases s.data[i]? <;> rfl
theorem at8_drop (l : List UInt8) (p i : Nat) : at8 (l.drop p) i = at8 l (p + i) := by
 unfold at8; simp [List.getD_eq_getElem?_getD]
theorem decode_dec (s : ByteArray) (p : Nat) : Utf8.decode s p = dec (s.data.toList.drop p) := by
 rw [decode_at]
 unfold dec
 simp only [at8_drop, get_bang, Nat.add_zero, List.length_drop, Array.length_toList]
 rfl
theorem decodeL_dec (l : List UInt8) : decodeL l = dec l := by
 unfold decodeL; rw [decode_dec]; rfl
def isOk (l : List UInt8) : Bool := !((dec l).1 == 65533 && (dec l).2 == 1)
theorem u8_of {x : Int} {c : UInt8} (h : x = c.toNat) : x.toNat.toUInt8 = c := by
 subst h; simp
theorem at8_0 (a : UInt8) (t : List UInt8) : at8 (a :: t) 0 = a.toNat := rfl
theorem at8_1 (a b : UInt8) (t : List UInt8) : at8 (a :: b :: t) 1 = b.toNat := rfl
theorem at8_2 (a b c : UInt8) (t : List UInt8) : at8 (a :: b :: c :: t) 2 = c.toNat := rfl
theorem at8_3 (a b c d : UInt8) (t : List UInt8) : at8 (a :: b :: c :: d :: t) 3 = d.toNat := rfl
theorem dec_width (l : List UInt8) (h : l ≠ []) : 1 ≤ (dec l).2 ∧ (dec l).2 ≤ 4 ∧ (dec l).2 ≤ l.length := by
 have hl := List.length_pos_iff.2 h
 unfold dec decodeN
 repeat' split
 all_goals (simp only; omega)
theorem dN1 {n b0 b1 b2 b3 : Nat} (h : b0 < 128) : decodeN n b0 b1 b2 b3 = (b0, 1) := by
 unfold decodeN; rw [if_pos h]
theorem dN2 {n b0 b1 b2 b3 : Nat} (h : 194 ≤ b0 ∧ b0 < 224) (hn : 2 ≤ n) (h1 : b1 / 64 = 2) : decodeN n b0 b1 b2 b3 = (b0 % 32 * 64 + b1 % 64, 2) := by
 unfold decodeN
 rw [if_neg (by omega), if_pos ⟨by omega, by omega, by omega⟩, if_pos (by omega)]
theorem dN3 {n b0 b1 b2 b3 : Nat} (h : b0 / 16 = 14) (hn : 3 ≤ n) (h1 : b1 / 64 = 2) (h2 : b2 / 64 = 2) (h3 : 2048 ≤ b0 % 16 * 4096 + b1 % 64 * 64 + b2 % 64)
  (h4 : b0 % 16 * 4096 + b1 % 64 * 64 + b2 % 64 < 55296 ∨ 57344 ≤ b0 % 16 * 4096 + b1 % 64 * 64 + b2 % 64) (hb : b0 < 256) : decodeN n b0 b1 b2 b3 = (b0 % 16 * 4096 + b1 % 64 * 64 + b2 % 64, 3) := by
 unfold decodeN
 rw [if_neg (by omega), if_neg (by omega), if_pos ⟨by omega, ⟨by omega, by omega⟩, by omega, by omega⟩, if_pos ⟨by omega, by omega⟩]
theorem dN4 {n b0 b1 b2 b3 : Nat} (h : b0 / 8 = 30) (hn : 4 ≤ n) (h1 : b1 / 64 = 2) (h2 : b2 / 64 = 2) (h3 : b3 / 64 = 2) (h4 : 65536 ≤ b0 % 8 * 262144 + b1 % 64 * 4096 + b2 % 64 * 64 + b3 % 64)
  (h5 : b0 % 8 * 262144 + b1 % 64 * 4096 + b2 % 64 * 64 + b3 % 64 ≤ 1114111) : decodeN n b0 b1 b2 b3 = (b0 % 8 * 262144 + b1 % 64 * 4096 + b2 % 64 * 64 + b3 % 64, 4) := by
 unfold decodeN
 rw [if_neg (by omega), if_neg (by omega), if_neg (by omega), if_pos ⟨by omega, ⟨by omega, by omega⟩, ⟨by omega, by omega⟩, by omega, by omega⟩, if_pos ⟨by omega, by omega⟩]
theorem dec_1 {a : UInt8} {t : List UInt8} (h : a.toNat < 128) : dec (a :: t) = (a.toNat, 1) := dN1 h
theorem dec_2 {a b : UInt8} {t : List UInt8} (h : 194 ≤ a.toNat ∧ a.toNat < 224) (h1 : b.toNat / 64 = 2) : dec (a :: b :: t) = (a.toNat % 32 * 64 + b.toNat % 64, 2) :=
 dN2 (b0 := a.toNat) (b1 := b.toNat) h (by simp) h1
theorem dec_3 {a b c : UInt8} {t : List UInt8} (h : a.toNat / 16 = 14) (h1 : b.toNat / 64 = 2) (h2 : c.toNat / 64 = 2) (h3 : 2048 ≤ a.toNat % 16 * 4096 + b.toNat % 64 * 64 + c.toNat % 64)
  (h4 : a.toNat % 16 * 4096 + b.toNat % 64 * 64 + c.toNat % 64 < 55296 ∨ 57344 ≤ a.toNat % 16 * 4096 + b.toNat % 64 * 64 + c.toNat % 64) : dec (a :: b :: c :: t) = (a.toNat % 16 * 4096 + b.toNat % 64 * 64 + c.toNat % 64, 3) :=
 dN3 (b0 := a.toNat) (b1 := b.toNat) (b2 := c.toNat) h (by simp) h1 h2 h3 h4 a.toNat_lt
theorem dec_4 {a b c d : UInt8} {t : List UInt8} (h : a.toNat / 8 = 30) (h1 : b.toNat / 64 = 2) (h2 : c.toNat / 64 = 2) (h3 : d.toNat / 64 = 2) (h4 : 65536 ≤ a.toNat % 8 * 262144 + b.toNat % 64 * 4096 + c.toNat % 64 * 64 + d.toNat % 64)
  (h5 : a.toNat % 8 * 262144 + b.toNat % 64 * 4096 + c.toNat % 64 * 64 + d.toNat % 64 ≤ 1114111) : dec (a :: b :: c :: d :: t) = (a.toNat % 8 * 262144 + b.toNat % 64 * 4096 + c.toNat % 64 * 64 + d.toNat % 64, 4) :=
 dN4 (b0 := a.toNat) (b1 := b.toNat) (b2 := c.toNat) (b3 := d.toNat) h (by simp) h1 h2 h3 h4 h5
theorem dec_cases (l : List UInt8) (h : l ≠ []) :
    (∃ a t, l = a :: t ∧ a.toNat < 128 ∧ dec l = (a.toNat, 1)) ∨
    (∃ a b t, l = a :: b :: t ∧ 194 ≤ a.toNat ∧ a.toNat < 224 ∧ b.toNat / 64 = 2 ∧ dec l = (a.toNat % 32 * 64 + b.toNat % 64, 2)) ∨
    (∃ a b c t, l = a :: b :: c :: t ∧ a.toNat / 16 = 14 ∧ b.toNat / 64 = 2 ∧ c.toNat / 64 = 2 ∧ 2048 ≤ a.toNat % 16 * 4096 + b.toNat % 64 * 64 + c.toNat % 64 ∧
      (a.toNat % 16 * 4096 + b.toNat % 64 * 64 + c.toNat % 64 < 55296 ∨ 57344 ≤ a.toNat % 16 * 4096 + b.toNat % 64 * 64 + c.toNat % 64) ∧ dec l = (a.toNat % 16 * 4096 + b.toNat % 64 * 64 + c.toNat % 64, 3)) ∨
    (∃ a b c d t, l = a :: b :: c :: d :: t ∧ a.toNat / 8 = 30 ∧ b.toNat / 64 = 2 ∧ c.toNat / 64 = 2 ∧ d.toNat / 64 = 2 ∧ 65536 ≤ a.toNat % 8 * 262144 + b.toNat % 64 * 4096 + c.toNat % 64 * 64 + d.toNat % 64 ∧
      a.toNat % 8 * 262144 + b.toNat % 64 * 4096 + c.toNat % 64 * 64 + d.toNat % 64 ≤ 1114111 ∧ dec l = (a.toNat % 8 * 262144 + b.toNat % 64 * 4096 + c.toNat % 64 * 64 + d.toNat % 64, 4)) ∨
    (dec l = (65533, 1) ∧ 128 ≤ at8 l 0 ∧
      ¬ (194 ≤ at8 l 0 ∧ at8 l 0 < 224 ∧ 2 ≤ l.length ∧ at8 l 1 / 64 = 2) ∧
      ¬ (at8 l 0 / 16 = 14 ∧ 3 ≤ l.length ∧ at8 l 1 / 64 = 2 ∧ at8 l 2 / 64 = 2 ∧ 2048 ≤ at8 l 0 % 16 * 4096 + at8 l 1 % 64 * 64 + at8 l 2 % 64 ∧
        (at8 l 0 % 16 * 4096 + at8 l 1 % 64 * 64 + at8 l 2 % 64 < 55296 ∨ 57344 ≤ at8 l 0 % 16 * 4096 + at8 l 1 % 64 * 64 + at8 l 2 % 64)) ∧
      ¬ (at8 l 0 / 8 = 30 ∧ 4 ≤ l.length ∧ at8 l 1 / 64 = 2 ∧ at8 l 2 / 64 = 2 ∧ at8 l 3 / 64 = 2 ∧ 65536 ≤ at8 l 0 % 8 * 262144 + at8 l 1 % 64 * 4096 + at8 l 2 % 64 * 64 + at8 l 3 % 64 ∧
        at8 l 0 % 8 * 262144 + at8 l 1 % 64 * 4096 + at8 l 2 % 64 * 64 + at8 l 3 % 64 ≤ 1114111)) := by
  have hl := List.length_pos_iff.2 h
  have b0 := at8_lt l 0
  have b1 := at8_lt l 1
  have b2 := at8_lt l 2
  have b3 := at8_lt l 3
  by_cases c1 : at8 l 0 < 128
  · left
    cases l with
    | nil => exact absurd rfl h
    | cons a t => exact ⟨a, t, rfl, c1, dec_1 c1⟩
  by_cases c2 : 194 ≤ at8 l 0 ∧ at8 l 0 < 224 ∧ 2 ≤ l.length ∧ at8 l 1 / 64 = 2
  · right; left
    match l, c2 with
    | a :: b :: t, c2 =>
      rw [at8_0, at8_1] at c2
      exact ⟨a, b, t, rfl, c2.1, c2.2.1, c2.2.2.2, dec_2 ⟨c2.1, c2.2.1⟩ c2.2.2.2⟩
  by_cases c3 : at8 l 0 / 16 = 14 ∧ 3 ≤ l.length ∧ at8 l 1 / 64 = 2 ∧ at8 l 2 / 64 = 2 ∧ 2048 ≤ at8 l 0 % 16 * 4096 + at8 l 1 % 64 * 64 + at8 l 2 % 64 ∧
        (at8 l 0 % 16 * 4096 + at8 l 1 % 64 * 64 + at8 l 2 % 64 < 55296 ∨ 57344 ≤ at8 l 0 % 16 * 4096 + at8 l 1 % 64 * 64 + at8 l 2 % 64)
  · right; right; left
    match l, c3 with
    | a :: b :: c :: t, c3 =>
      rw [at8_0, at8_1, at8_2] at c3
      exact ⟨a, b, c, t, rfl, c3.1, c3.2.2.1, c3.2.2.2.1, c3.2.2.2.2.1, c3.2.2.2.2.2, dec_3 c3.1 c3.2.2.1 c3.2.2.2.1 c3.2.2.2.2.1 c3.2.2.2.2.2⟩
  by_cases c4 : at8 l 0 / 8 = 30 ∧ 4 ≤ l.length ∧ at8 l 1 / 64 = 2 ∧ at8 l 2 / 64 = 2 ∧ at8 l 3 / 64 = 2 ∧ 65536 ≤ at8 l 0 % 8 * 262144 + at8 l 1 % 64 * 4096 + at8 l 2 % 64 * 64 + at8 l 3 % 64 ∧
        at8 l 0 % 8 * 262144 + at8 l 1 % 64 * 4096 + at8 l 2 % 64 * 64 + at8 l 3 % 64 ≤ 1114111
  · right; right; right; left
    match l, c4 with
    | a :: b :: c :: d :: t, c4 =>
      rw [at8_0, at8_1, at8_2, at8_3] at c4
      exact ⟨a, b, c, d, t, rfl, c4.1, c4.2.2.1, c4.2.2.2.1, c4.2.2.2.2.1, c4.2.2.2.2.2.1, c4.2.2.2.2.2.2, dec_4 c4.1 c4.2.2.1 c4.2.2.2.1 c4.2.2.2.2.1 c4.2.2.2.2.2.1 c4.2.2.2.2.2.2⟩
  right; right; right; right
  refine ⟨?_, by omega, c2, c3, c4⟩
  unfold dec decodeN
  repeat' split
  all_goals first | (exfalso; omega) | rfl
theorem isOk_of {l : List UInt8} {r k : Nat} (h : dec l = (r, k)) (hk : r ≠ 65533 ∨ k ≠ 1) : isOk l = true := by
 unfold isOk; rw [h]; simp; omega
theorem not_ok {l : List UInt8} (h : dec l = (65533, 1)) : isOk l = false := by unfold isOk; rw [h]; rfl
theorem enc_dec (l : List UInt8) (h : l ≠ []) (ho : isOk l = true) : encodeRune (dec l).1 = l.take (dec l).2 := by
 rcases dec_cases l h with ⟨a, t, rfl, h1, e⟩ | ⟨a, b, t, rfl, h1, h2, h3, e⟩ | ⟨a, b, c, t, rfl, h1, h2, h3, h4, h5, e⟩ | ⟨a, b, c, d, t, rfl, h1, h2, h3, h4, h5, h6, e⟩ | ⟨e, _⟩
 ·rw [e]
  have := encodeRuneZ_one (r := (a.toNat : Int)) (by omega) (by omega)
  simp only [encodeRune, this, List.map_cons, List.map_nil, u8_of rfl, List.take_succ_cons, List.take_zero]
 ·rw [e]
  have := encodeRuneZ_two (r := ((a.toNat % 32 * 64 + b.toNat % 64 : Nat) : Int)) (by omega) (by omega)
  simp only [encodeRune, this, List.map_cons, List.map_nil, List.take_succ_cons, List.take_zero]
  rw [u8_of (c := a) (by omega), u8_of (c := b) (by omega)]
 ·rw [e]
  have := a.toNat_lt
  have := encodeRuneZ_three (r := ((a.toNat % 16 * 4096 + b.toNat % 64 * 64 + c.toNat % 64 : Nat) : Int)) (by omega)
  simp only [encodeRune, this, List.map_cons, List.map_nil, List.take_succ_cons, List.take_zero]
  rw [u8_of (c := a) (by omega), u8_of (c := b) (by omega), u8_of (c := c) (by omega)]
 ·rw [e]
  have := encodeRuneZ_four (r := ((a.toNat % 8 * 262144 + b.toNat % 64 * 4096 + c.toNat % 64 * 64 + d.toNat % 64 : Nat) : Int)) (by omega) (by omega)
  simp only [encodeRune, this, List.map_cons, List.map_nil, List.take_succ_cons, List.take_zero]
  rw [u8_of (c := a) (by omega), u8_of (c := b) (by omega), u8_of (c := c) (by omega), u8_of (c := d) (by omega)]
 ·rw [not_ok e] at ho; cases ho
theorem dec_high (l : List UInt8) (h : l ≠ []) (ho : isOk l = true) : (∃ a t, l = a :: t ∧ a.toNat < 128 ∧ dec l = (a.toNat, 1)) ∨ (128 ≤ (dec l).1 ∧ 2 ≤ (dec l).2 ∧ ∀ c ∈ l.take (dec l).2, 128 ≤ c.toNat) := by
 rcases dec_cases l h with ⟨a, t, rfl, h1, e⟩ | ⟨a, b, t, rfl, h1, h2, h3, e⟩ | ⟨a, b, c, t, rfl, h1, h2, h3, h4, h5, e⟩ | ⟨a, b, c, d, t, rfl, h1, h2, h3, h4, h5, h6, e⟩ | ⟨e, _⟩
 ·exact .inl ⟨a, t, rfl, h1, e⟩
 ·right; rw [e]; refine ⟨by simp only; omega, by simp, fun x hx => ?_⟩
  simp at hx; rcases hx with rfl | rfl <;> omega
 ·right; rw [e]; refine ⟨by simp only; omega, by simp, fun x hx => ?_⟩
  simp at hx; rcases hx with rfl | rfl | rfl <;> omega
 ·right; rw [e]; refine ⟨by simp only; omega, by simp, fun x hx => ?_⟩
  simp at hx; rcases hx with rfl | rfl | rfl | rfl <;> omega
 ·rw [not_ok e] at ho; cases ho
def runeLen (r : Nat) : Nat := if r < 128 then 1 else if r < 2048 then 2 else if r < 65536 then 3 else 4
def unit1 (l : List UInt8) : Option Nat × List UInt8 := (if isOk l then some (dec l).1 else none, l.take (dec l).2)
def unitsF : Nat → List UInt8 → List (Option Nat × List UInt8)
 | 0, _ => []
 | f + 1, l => if l.isEmpty then [] else unit1 l :: unitsF f (l.drop (dec l).2)
def units (l : List UInt8) : List (Option Nat × List UInt8) := unitsF l.length l
theorem unitsF_more (f : Nat) : ∀ (l : List UInt8) (g : Nat), l.length ≤ f → l.length ≤ g → unitsF f l = unitsF g l := by
 induction f with
 | zero =>
  intro l g h _
  have : l = [] := List.eq_nil_of_length_eq_zero (by omega)
  subst this
  cases g <;> simp [unitsF]
 | succ f ih =>
  intro l g h hg
  by_cases he : l = []
  ·subst he; cases g <;> simp [unitsF]
  ·have hw := dec_width l he
   have hl := List.length_pos_iff.2 he
   obtain ⟨g, rfl⟩ : ∃ k, g = k + 1 := ⟨g - 1, by omega⟩
   simp only [unitsF]
   rw [ih (l.drop (dec l).2) g (by simp; omega) (by simp; omega)]
theorem units_nil : units [] = [] := rfl
theorem units_cons (l : List UInt8) (h : l ≠ []) : units l = unit1 l :: units (l.drop (dec l).2) := by
 have hw := dec_width l h
 have hl := List.length_pos_iff.2 h
 unfold units
 obtain ⟨f, hf⟩ : ∃ k, l.length = k + 1 := ⟨l.length - 1, by omega⟩
 rw [hf, unitsF]
 have he : l.isEmpty = false := by cases l; exact absurd rfl h; rfl
 rw [he]
 simp only [Bool.false_eq_true, if_false]
 rw [unitsF_more f _ (l.drop (dec l).2).length (by simp; omega) (Nat.le_refl _)]
theorem units_rec {P : List UInt8 → Prop} (h0 : P []) (hs : ∀ l, l ≠ [] → P (l.drop (dec l).2) → P l) : ∀ l, P l := by
 intro l
 suffices H : ∀ n (l : List UInt8), l.length ≤ n → P l from H l.length l (Nat.le_refl _)
 intro n
 induction n with
 | zero => intro l hl; rw [List.eq_nil_of_length_eq_zero (show l.length = 0 by omega)]; exact h0
 | succ n ih =>
  intro l hl
  by_cases he : l = []
  ·rw [he]; exact h0
  ·have hw := dec_width l he
   exact hs l he (ih _ (by simp; omega))
theorem units_bytes (l : List UInt8) : (units l).flatMap (·.2) = l := by
 induction l using units_rec with
 | h0 => rfl
 | hs l h ih => rw [units_cons l h, List.flatMap_cons, ih]; exact List.take_append_drop _ _
def textB (l : List UInt8) : Bool := (units l).all (·.1.isSome)
theorem textB_cons (l : List UInt8) (h : l ≠ []) : textB l = (isOk l && textB (l.drop (dec l).2)) := by
 unfold textB; rw [units_cons l h, List.all_cons]; unfold unit1; cases isOk l <;> rfl
def unitOk (u : Option Nat × List UInt8) : Prop :=
 match u with
 | (none, s) => ∃ c : UInt8, 128 ≤ c.toNat ∧ s = [c]
 | (some r, s) => (∃ c : UInt8, c.toNat < 128 ∧ r = c.toNat ∧ s = [c]) ∨ (128 ≤ r ∧ s ≠ [] ∧ ∀ c ∈ s, 128 ≤ c.toNat)
theorem unit1_ok (l : List UInt8) (h : l ≠ []) : unitOk (unit1 l) := by
 have hw := dec_width l h
 unfold unit1
 by_cases ho : isOk l = true
 ·rw [if_pos ho]
  rcases dec_high l h ho with ⟨a, t, rfl, h1, e⟩ | ⟨h1, h2, h3⟩
  ·left; rw [e]; exact ⟨a, h1, rfl, rfl⟩
  ·right; exact ⟨h1, by intro e; have h2 := congrArg List.length e; rw [List.length_take, List.length_nil] at h2; omega, h3⟩
 ·rw [if_neg ho]
  rcases dec_cases l h with ⟨a, t, rfl, h1, e⟩ | ⟨a, b, t, rfl, h1, h2, h3, e⟩ | ⟨a, b, c, t, rfl, h1, h2, h3, h4, h5, e⟩ | ⟨a, b, c, d, t, rfl, h1, h2, h3, h4, h5, h6, e⟩ | ⟨e, h1, _⟩
  ·exact absurd (isOk_of e (by have := h1; omega)) ho
  ·exact absurd (isOk_of e (by omega)) ho
  ·exact absurd (isOk_of e (by omega)) ho
  ·exact absurd (isOk_of e (by omega)) ho
  ·match l, h with
   | a :: t, _ => rw [e]; exact ⟨a, h1, rfl⟩
theorem units_ok (l : List UInt8) : ∀ u ∈ units l, unitOk u := by
 induction l using units_rec with
 | h0 => intro u hu; simp [units_nil] at hu
 | hs l h ih =>
  intro u hu
  rw [units_cons l h, List.mem_cons] at hu
  rcases hu with rfl | hu
  ·exact unit1_ok l h
  ·exact ih u hu
def plainN (r : Nat) : Bool := decide ((32 ≤ r ∧ r < 127 ∧ r ≠ 92) ∨ 160 ≤ r)
def nameU (u : Option Nat × List UInt8) : Bool := match u.1 with | some r => plainN r && r != 47 | none => false
def nameB (l : List UInt8) : Bool := !l.isEmpty && decide (l.length ≤ 24) && l != [46] && l != [46, 46] && (units l).all nameU
theorem nameB_text {l : List UInt8} (h : nameB l = true) : textB l = true := by
 unfold nameB at h
 simp only [Bool.and_eq_true] at h
 unfold textB
 rw [List.all_eq_true] at *
 intro u hu
 have := h.2 u hu
 unfold nameU at this
 cases hx : u.1 with
 | none => rw [hx] at this; cases this
 | some r => rfl
theorem nameB_bytes {l : List UInt8} (h : nameB l = true) : ∀ c ∈ l, 32 ≤ c.toNat ∧ c.toNat ≠ 47 ∧ c.toNat ≠ 92 ∧ c.toNat ≠ 127 := by
 unfold nameB at h
 simp only [Bool.and_eq_true] at h
 have h2 := h.2
 intro c hc
 rw [← units_bytes l, List.mem_flatMap] at hc
 obtain ⟨u, hu, hcu⟩ := hc
 have h3 := List.all_eq_true.1 h2 u hu
 have h4 := units_ok l u hu
 obtain ⟨o, s⟩ := u
 cases o with
 | none => cases h3
 | some r =>
  simp only [nameU, plainN, Bool.and_eq_true, decide_eq_true_eq, bne_iff_ne] at h3
  rcases h4 with ⟨c', h5, h6, h7⟩ | ⟨h5, _, h6⟩
  ·subst h7; simp at hcu; subst hcu; omega
  ·have := h6 c hcu; omega
def guessZ (l : List UInt8) (many : Nat) : Int :=
 if many = 1 then at8 l 0 else if many = 2 then 64 * ((at8 l 0 : Int) - 192) + at8 l 1 - 128
 else if many = 3 then 64 * (64 * ((at8 l 0 : Int) - 224) + at8 l 1 - 128) + at8 l 2 - 128
 else 64 * (64 * (64 * ((at8 l 0 : Int) - 240) + at8 l 1 - 128) + at8 l 2 - 128) + at8 l 3 - 128
def isR (n : Int) : Bool := decide ((0 ≤ n ∧ n ≤ 55295) ∨ (57344 ≤ n ∧ n ≤ 1114111))
def hitB (l : List UInt8) (many : Nat) : Bool := isR (guessZ l many) && encodeRune (guessZ l many) == l.take many
theorem enc_len (n : Int) (h : isR n = true) : (encodeRune n).length = runeLen n.toNat := by
 simp only [isR, decide_eq_true_eq] at h
 unfold runeLen
 by_cases h1 : n ≤ 127
 ·rw [encodeRune, encodeRuneZ_one (by omega) h1, if_pos (by omega)]; rfl
 by_cases h2 : n ≤ 2047
 ·rw [encodeRune, encodeRuneZ_two (by omega) h2, if_neg (by omega), if_pos (by omega)]; rfl
 by_cases h3 : n ≤ 65535
 ·rw [encodeRune, encodeRuneZ_three (by omega), if_neg (by omega), if_neg (by omega), if_pos (by omega)]; rfl
 ·rw [encodeRune, encodeRuneZ_four (by omega) (by omega), if_neg (by omega), if_neg (by omega), if_neg (by omega)]; rfl
theorem enc_eq2 (n : Int) (a b : UInt8) (h1 : 128 ≤ n) (h2 : n ≤ 2047) : encodeRune n = [a, b] ↔ 192 + n / 64 = a.toNat ∧ 128 + n % 64 = b.toNat := by
 rw [encodeRune, encodeRuneZ_two h1 h2]
 simp only [List.map_cons, List.map_nil, List.cons.injEq, and_true]
 rw [← UInt8.toNat_inj, ← UInt8.toNat_inj]
 simp
 omega
theorem enc_eq3 (n : Int) (a b c : UInt8) (h : (2048 ≤ n ∧ n < 55296) ∨ (57343 < n ∧ n ≤ 65535)) : encodeRune n = [a, b, c] ↔ 224 + n / 4096 = a.toNat ∧ 128 + n / 64 % 64 = b.toNat ∧ 128 + n % 64 = c.toNat := by
 rw [encodeRune, encodeRuneZ_three h]
 simp only [List.map_cons, List.map_nil, List.cons.injEq, and_true]
 rw [← UInt8.toNat_inj, ← UInt8.toNat_inj, ← UInt8.toNat_inj]
 simp
 omega
theorem enc_eq4 (n : Int) (a b c d : UInt8) (h1 : 65536 ≤ n) (h2 : n ≤ 1114111) : encodeRune n = [a, b, c, d] ↔ 240 + n / 262144 = a.toNat ∧ 128 + n / 4096 % 64 = b.toNat ∧ 128 + n / 64 % 64 = c.toNat ∧ 128 + n % 64 = d.toNat := by
 rw [encodeRune, encodeRuneZ_four h1 h2]
 simp only [List.map_cons, List.map_nil, List.cons.injEq, and_true]
 rw [← UInt8.toNat_inj, ← UInt8.toNat_inj, ← UInt8.toNat_inj, ← UInt8.toNat_inj]
 simp
 omega
theorem guess_dec (l : List UInt8) (h : l ≠ []) (ho : isOk l = true) : guessZ l (dec l).2 = (dec l).1 := by
 rcases dec_cases l h with ⟨a, t, rfl, h1, e⟩ | ⟨a, b, t, rfl, h1, h2, h3, e⟩ | ⟨a, b, c, t, rfl, h1, h2, h3, h4, h5, e⟩ | ⟨a, b, c, d, t, rfl, h1, h2, h3, h4, h5, h6, e⟩ | ⟨e, _⟩
 ·rw [e]; simp [guessZ, at8_0]
 ·rw [e]; simp only [guessZ, at8_0, at8_1, show ¬ (2 : Nat) = 1 by decide, if_true, if_false]; have := b.toNat_lt; omega
 ·rw [e]; simp only [guessZ, at8_0, at8_1, at8_2, show ¬ (3 : Nat) = 1 by decide, show ¬ (3 : Nat) = 2 by decide, if_true, if_false]; omega
 ·rw [e]; simp only [guessZ, at8_0, at8_1, at8_2, at8_3, show ¬ (4 : Nat) = 1 by decide, show ¬ (4 : Nat) = 2 by decide, show ¬ (4 : Nat) = 3 by decide, if_true, if_false]; omega
 ·rw [not_ok e] at ho; cases ho
theorem hit_iff (l : List UInt8) (h : l ≠ []) (many : Nat) (h1 : 1 ≤ many) (h4 : many ≤ 4) (hl : many ≤ l.length) :
  hitB l many = true ↔ isOk l = true ∧ (dec l).2 = many := by
 have b0 := at8_lt l 0
 have b1 := at8_lt l 1
 have b2 := at8_lt l 2
 have b3 := at8_lt l 3
 constructor
 ·intro hh
  simp only [hitB, Bool.and_eq_true, beq_iff_eq] at hh
  obtain ⟨hr, he⟩ := hh
  have hn := enc_len _ hr
  have hlen := congrArg List.length he
  rw [hn, List.length_take, Nat.min_eq_left hl] at hlen
  simp only [isR, decide_eq_true_eq] at hr
  have hm : many = 1 ∨ many = 2 ∨ many = 3 ∨ many = 4 := by omega
  unfold runeLen at hlen
  rcases hm with rfl | rfl | rfl | rfl
  ·match l, h with
   | a :: t, _ =>
    simp only [guessZ, at8_0, if_true] at *
    have ha : a.toNat < 128 := by
     by_cases hc : a.toNat < 128
     ·exact hc
     ·rw [if_neg (by omega)] at hlen
      split at hlen <;> first | omega | (split at hlen <;> omega)
    have e : dec (a :: t) = (a.toNat, 1) := dec_1 ha
    exact ⟨isOk_of e (by omega), by rw [e]⟩
  ·match l, hl with
   | a :: b :: t, _ =>
    simp only [guessZ, at8_0, at8_1, show ¬ (2 : Nat) = 1 by decide, if_true, if_false] at *
    generalize hg : 64 * ((a.toNat : Int) - 192) + (b.toNat : Int) - 128 = n at *
    have hb : 128 ≤ n ∧ n ≤ 2047 := by
     by_cases c1 : n.toNat < 128
     ·rw [if_pos c1] at hlen; omega
     rw [if_neg c1] at hlen
     by_cases c2 : n.toNat < 2048
     ·omega
     rw [if_neg c2] at hlen
     split at hlen <;> omega
    have he2 := (enc_eq2 n a b hb.1 hb.2).1 (by simpa using he)
    have e : dec (a :: b :: t) = (a.toNat % 32 * 64 + b.toNat % 64, 2) := dec_2 (by omega) (by omega)
    exact ⟨isOk_of e (by omega), by rw [e]⟩
  ·match l, hl with
   | a :: b :: c :: t, _ =>
    simp only [guessZ, at8_0, at8_1, at8_2, show ¬ (3 : Nat) = 1 by decide, show ¬ (3 : Nat) = 2 by decide, if_true, if_false] at *
    generalize hg : 64 * (64 * ((a.toNat : Int) - 224) + (b.toNat : Int) - 128) + (c.toNat : Int) - 128 = n at *
    have hb : 2048 ≤ n ∧ n ≤ 65535 := by
     by_cases c1 : n.toNat < 128
     ·rw [if_pos c1] at hlen; omega
     rw [if_neg c1] at hlen
     by_cases c2 : n.toNat < 2048
     ·rw [if_pos c2] at hlen; omega
     rw [if_neg c2] at hlen
     split at hlen <;> omega
    have he2 := (enc_eq3 n a b c (by omega)).1 (by simpa using he)
    have e : dec (a :: b :: c :: t) = (a.toNat % 16 * 4096 + b.toNat % 64 * 64 + c.toNat % 64, 3) := dec_3 (by omega) (by omega) (by omega) (by omega) (by omega)
    exact ⟨isOk_of e (by omega), by rw [e]⟩
  ·match l, hl with
   | a :: b :: c :: d :: t, _ =>
    simp only [guessZ, at8_0, at8_1, at8_2, at8_3, show ¬ (4 : Nat) = 1 by decide, show ¬ (4 : Nat) = 2 by decide, show ¬ (4 : Nat) = 3 by decide, if_true, if_false] at *
    generalize hg : 64 * (64 * (64 * ((a.toNat : Int) - 240) + (b.toNat : Int) - 128) + (c.toNat : Int) - 128) + (d.toNat : Int) - 128 = n at *
    have hb : 65536 ≤ n ∧ n ≤ 1114111 := by
     by_cases c1 : n.toNat < 128
     ·rw [if_pos c1] at hlen; omega
     rw [if_neg c1] at hlen
     by_cases c2 : n.toNat < 2048
     ·rw [if_pos c2] at hlen; omega
     rw [if_neg c2] at hlen
     split at hlen <;> omega
    have he2 := (enc_eq4 n a b c d hb.1 hb.2).1 (by simpa using he)
    have e : dec (a :: b :: c :: d :: t) = (a.toNat % 8 * 262144 + b.toNat % 64 * 4096 + c.toNat % 64 * 64 + d.toNat % 64, 4) := dec_4 (by omega) (by omega) (by omega) (by omega) (by omega) (by omega)
    exact ⟨isOk_of e (by omega), by rw [e]⟩
 ·rintro ⟨ho, hw⟩
  have he := enc_dec l h ho
  subst hw
  have hg : guessZ l (dec l).2 = (dec l).1 := guess_dec l h ho
  have hr : isR (dec l).1 = true := by
   simp only [isR, decide_eq_true_eq]
   rcases dec_cases l h with ⟨a, t, rfl, h1, e⟩ | ⟨a, b, t, rfl, h1, h2, h3, e⟩ | ⟨a, b, c, t, rfl, h1, h2, h3, h4, h5, e⟩ | ⟨a, b, c, d, t, rfl, h1, h2, h3, h4, h5, h6, e⟩ | ⟨e, _⟩
   ·rw [e]; simp only; omega
   ·rw [e]; simp only; omega
   ·rw [e]; simp only; have := a.toNat_lt; omega
   ·rw [e]; simp only; omega
   ·rw [not_ok e] at ho; cases ho
  simp only [hitB, hg, hr, he, Bool.and_eq_true, beq_iff_eq]
  trivial
end WX
end
section
namespace WX
open Go.Lib
theorem validGoD_text (f : Nat) : ∀ l : List UInt8, l.length ≤ f → validGoD f l = textB l := by
 induction f with
 | zero => intro l h; rw [List.eq_nil_of_length_eq_zero (show l.length = 0 by omega)]; rfl
 | succ f ih =>
  intro l h
  unfold validGoD
  by_cases he : l = []
  ·subst he; rfl
  ·have hw := dec_width l he
   rw [if_neg he, decodeL_dec, textB_cons l he]
   unfold isOk
   by_cases hc : (dec l).1 = 65533 ∧ (dec l).2 = 1
   ·rw [if_pos hc, hc.1, hc.2]; rfl
   ·rw [if_neg hc, ih _ (by rw [List.length_drop]; omega)]
    have : ((dec l).1 == 65533 && (dec l).2 == 1) = false := by
     cases hx : ((dec l).1 == 65533 && (dec l).2 == 1) with
     | false => rfl
     | true => exfalso; simp at hx; exact hc hx
    rw [this]; rfl
theorem validD_text (l : List UInt8) : validD l = textB l := validGoD_text _ l (Nat.le_refl _)
theorem units_all (l : List UInt8) (h : l ≠ []) (p : Option Nat × List UInt8 → Bool) : (units l).all p = (p (unit1 l) && (units (l.drop (dec l).2)).all p) := by rw [units_cons l h, List.all_cons]
end WX
end
section
namespace WX
open Go.Lib
end WX
end
section
namespace WX
open Go.Lib
def pieces (c : UInt8) : List UInt8 → List (List UInt8)
 | [] => [[]]
 | b :: l => if b = c then [] :: pieces c l else match pieces c l with | p :: ps => (b :: p) :: ps | [] => [[b]]
theorem pieces_ne (c : UInt8) (l : List UInt8) : pieces c l ≠ [] := by
 cases l with
 | nil => simp [pieces]
 | cons b l => unfold pieces; split; simp; split <;> simp
theorem index_ne (b c : UInt8) (l : List UInt8) (h : b ≠ c) : index (b :: l) [c] = if index l [c] == -1 then -1 else index l [c] + 1 := by
 have hp : ([c] : List UInt8).isPrefixOf (b :: l) = false := by simp [List.isPrefixOf, Ne.symm h]
 rw [index, hp]; simp
theorem splitK_pieces (c : UInt8) (l : List UInt8) : splitK [c] 0 (count l [c]) l = pieces c l := by
 induction l with
 | nil => rw [count_miss (by simp [index])]; rfl
 | cons b l ih =>
  by_cases h : b = c
  ·subst h
   rw [count_cons_eq, Nat.add_comm]
   have hix : index (b :: l) [b] = 0 := by rw [index]; simp [List.isPrefixOf]
   unfold splitK pieces
   rw [hix, if_neg (by decide), if_pos rfl]
   simp [ih]
  ·rw [count_cons_ne b c l h]
   unfold pieces
   rw [if_neg h, ← ih]
   cases hk : count l [c] with
   | zero => rfl
   | succ k =>
    have hm : ¬ (index l [c] == -1) = true := fun e => by
     have := count_miss (beq_iff_eq.1 e); omega
    have hge := index_ge l [c]
    have hne : index l [c] ≠ -1 := fun e => hm (beq_iff_eq.2 e)
    obtain ⟨i, hi⟩ : ∃ i : Nat, index l [c] = i := ⟨(index l [c]).toNat, by omega⟩
    have hix := index_ne b c l h
    rw [if_neg hm, hi] at hix
    simp only [splitK]
    rw [if_neg hm, hix, hi, if_neg (by simp; omega)]
    have e1 : ((i : Int) + 1).toNat = i + 1 := by omega
    rw [e1]
    simp
theorem pieces_join (c : UInt8) (l : List UInt8) : [c].intercalate (pieces c l) = l := by
 induction l with
 | nil => rfl
 | cons b l ih =>
  unfold pieces
  by_cases h : b = c
  ·subst h
   rw [if_pos rfl]
   cases hp : pieces b l with
   | nil => exact absurd hp (pieces_ne b l)
   | cons p ps => rw [hp] at ih; simp [List.intercalate, List.intersperse] at ih ⊢; exact ih
  ·rw [if_neg h]
   cases hp : pieces c l with
   | nil => exact absurd hp (pieces_ne c l)
   | cons p ps =>
    rw [hp] at ih
    cases ps with
    | nil => simp [List.intercalate, List.intersperse] at ih ⊢; exact ih
    | cons q qs => simp [List.intercalate, List.intersperse] at ih ⊢; exact ih
theorem pieces_clean (c : UInt8) (a l : List UInt8) (h : ∀ x ∈ a, x ≠ c) : pieces c (a ++ l) = match pieces c l with | p :: ps => (a ++ p) :: ps | [] => [a] := by
 induction a with
 | nil => cases hp : pieces c l with
  | nil => exact absurd hp (pieces_ne c l)
  | cons p ps => simp [hp]
 | cons b a ih =>
  rw [List.cons_append]
  conv => lhs; unfold pieces
  rw [if_neg (h b (by simp)), ih fun x hx => h x (by simp [hx])]
  cases hp : pieces c l with
  | nil => exact absurd hp (pieces_ne c l)
  | cons p ps => simp
theorem pieces_of_join (c : UInt8) : ∀ (ns : List (List UInt8)), ns ≠ [] → (∀ n ∈ ns, ∀ x ∈ n, x ≠ c) → pieces c ([c].intercalate ns) = ns
  | [], h, _ => absurd rfl h
  | [n], _, h => by
    have := pieces_clean c n [] (h n (by simp))
    simp [List.intercalate, List.intersperse] at this ⊢
    rw [this]; simp [pieces]
  | n :: m :: r, _, h => by
    have ih := pieces_of_join c (m :: r) (by simp) fun x hx => h x (by simp [hx])
    have e : [c].intercalate (n :: m :: r) = n ++ (c :: [c].intercalate (m :: r)) := by simp [List.intercalate, List.intersperse]
    rw [e, pieces_clean c n _ (h n (by simp))]
    have : pieces c (c :: [c].intercalate (m :: r)) = [] :: pieces c ([c].intercalate (m :: r)) := by conv => lhs; unfold pieces
                                                                                                      rw [if_pos rfl]
    rw [this, ih]; simp
def pathF (l : List UInt8) : Option (List (List UInt8)) :=
 if l = [47] then some [] else if l.head? = some 47 ∧ (pieces 47 (l.drop 1)).length ≤ 8 ∧ (pieces 47 (l.drop 1)).all nameB = true then some (pieces 47 (l.drop 1)) else none
def joinF (ns : List (List UInt8)) : List UInt8 × Int := if ns.length ≤ 8 ∧ ns.all nameB = true then (47 :: [47].intercalate ns, 0) else ([], 10)
theorem nameB_nil : nameB [] = false := by decide
theorem name_no47 {ns : List (List UInt8)} (h : ns.all nameB = true) : ∀ n ∈ ns, ∀ x ∈ n, x ≠ 47 := by
 intro n hn x hx e
 have := (nameB_bytes (List.all_eq_true.1 h n hn) x hx).2.1
 subst e; exact this rfl
theorem path_join {ns : List (List UInt8)} (h : (joinF ns).2 = 0) : pathF (joinF ns).1 = some ns := by
 unfold joinF at h ⊢
 split at h
 ·rename_i hc
  rw [if_pos hc]
  simp only
  cases ns with
  | nil => rfl
  | cons n r =>
   have hp := pieces_of_join 47 (n :: r) (by simp) (name_no47 hc.2)
   unfold pathF
   have hne : ¬ (47 :: [47].intercalate (n :: r)) = [47] := by
    intro e
    have e2 : [47].intercalate (n :: r) = [] := by injection e
    rw [e2] at hp
    simp [pieces] at hp
    have := hc.2
    rw [hp.1] at this
    simp [nameB_nil] at this
   rw [if_neg hne]
   simp only [List.drop_succ_cons, List.drop_zero, List.head?_cons, hp]
   rw [if_pos ⟨trivial, hc⟩]
 ·simp at h
theorem join_path {l : List UInt8} {ns : List (List UInt8)} (h : pathF l = some ns) : joinF ns = (l, 0) := by
 unfold pathF at h
 split at h
 ·rename_i hl; cases h; subst hl; rfl
 split at h
 ·rename_i hc
  cases h
  unfold joinF
  rw [if_pos hc.2, pieces_join]
  match l, hc.1 with
  | c :: t, hh => simp at hh; subst hh; rfl
 ·cases h
theorem path_names {l : List UInt8} {ns : List (List UInt8)} (h : pathF l = some ns) : ns.length ≤ 8 ∧ ns.all nameB = true := by
 unfold pathF at h
 split at h
 ·cases h; simp
 split at h
 ·rename_i hc; cases h; exact hc.2
 ·cases h
theorem name_len {n : List UInt8} (h : nameB n = true) : n.length ≤ 24 := by
 unfold nameB at h; simp only [Bool.and_eq_true, decide_eq_true_eq] at h; exact h.1.1.1.2
end WX
end
end Go.Proofs.YteplbljjlbdhaaaGreatDoor
