/- Walks and lemmas on the program of this seat, used by its statements; each theorem bears its own conditions. -/
import Derived.Test.YtgdncdhalnijcaaDoorRdY
namespace Go.Proofs.YtgdncdhalnijcaaDoor
open Go.RowKit
set_option linter.unusedVariables false
set_option linter.unusedSimpArgs false
namespace BD
/-! ### A chunk's line -/
/-- Within a chunk's line: k digits were read, they say n. -/
def InNum (x : Xr) (out : List UInt8) (r : Rd) (k : Nat) (n : Int) : Prop := x.e = 0 ∧ x.short = false ∧ k ≤ 6 ∧ 0 ≤ n ∧ n < 16 ^ k ∧ Seen x out { r with state := 2, left := n, many := k }
/-- Its end was read. -/
def NumDone (x : Xr) (out : List UInt8) (r : Rd) (n : Int) : Prop := x.e = 0 ∧ x.short = false ∧ 0 ≤ n ∧ n ≤ 16777216 ∧ ∃ (p : Nat) (m : Int), x.pos = p + 1 ∧ p < x.s.length ∧ (x.s.getD p 0).toNat = 10 ∧ Seen { x with pos := p } out { r with state := 3, left := n, many := m }
def NumPost (b : Nat) (x : Xr) (out : List UInt8) (r : Rd) (w : World) (e : Ending) (w' : World) : Prop :=
  ∃ n : Int, e = .returned (I n) ∧ Kept [b] w w' ∧ ∃ x', XAt w' b x' ∧ x'.s = x.s ∧ x'.sv = x.sv ∧ 0 ≤ n ∧ n ≤ 16777216 ∧ (Ended x' out ∨ NumDone x' out r n)
theorem pow16 (k : Nat) (h : k ≤ 6) : (16 : Int) ^ k ≤ 16777216 := by
  have : k = 0 ∨ k = 1 ∨ k = 2 ∨ k = 3 ∨ k = 4 ∨ k = 5 ∨ k = 6 := by omega
  rcases this with rfl | rfl | rfl | rfl | rfl | rfl | rfl <;> decide
theorem InNum.le {x : Xr} {out : List UInt8} {r : Rd} {k : Nat} {n : Int} (h : InNum x out r k n) : n ≤ 16777216 := by
  have h1 := pow16 k h.2.2.1
  have h2 := h.2.2.2.2.1
  omega
/-- one digit more -/
theorem InNum.digit {x : Xr} {out : List UInt8} {r : Rd} {k : Nat} {n : Int} (h : InNum x out r k n) (hl : x.pos < x.s.length) (hk : k < 6) (hc : ¬ ((x.s.getD x.pos 0).toNat = 13 ∧ 0 < k)) (hd : 0 ≤ digitF (x.s.getD x.pos 0)) :
    InNum { x with pos := x.pos + 1 } out r (k + 1) (16 * n + digitF (x.s.getD x.pos 0)) := by
  obtain ⟨he, hs, _, h0, h1, hseen⟩ := h
  have hle := (digitF_le (x.s.getD x.pos 0)).2
  refine ⟨he, hs, by omega, by omega, ?_, ?_⟩
  · rw [Int.pow_succ]; omega
  · have h2 := hseen.step hl (in2_digit { r with state := 2, left := n, many := k } _ rfl (by rintro ⟨g1, g2⟩; exact hc ⟨g1, by simpa using g2⟩) hd (by show (k : Int) < 6; omega))
    simpa using h2
theorem InNum.bad {x : Xr} {out : List UInt8} {r : Rd} {k : Nat} {n : Int} (h : InNum x out r k n) (hl : x.pos < x.s.length) (hc : ¬ ((x.s.getD x.pos 0).toNat = 13 ∧ 0 < k)) (hd : digitF (x.s.getD x.pos 0) < 0 ∨ k = 6) : Wrong x.s 180 :=
  h.2.2.2.2.2.wrong hl (in2_bad { r with state := 2, left := n, many := k } _ rfl (by rintro ⟨g1, g2⟩; exact hc ⟨g1, by simpa using g2⟩) (by rcases hd with g | g; exact .inl g; exact .inr (by show (k : Int) = 6; omega))) (by decide)
theorem InNum.cr {x : Xr} {out : List UInt8} {r : Rd} {k : Nat} {n : Int} (h : InNum x out r k n) (hl : x.pos < x.s.length) (hc : (x.s.getD x.pos 0).toNat = 13) (hk : 0 < k) : Seen { x with pos := x.pos + 1 } out { r with state := 3, left := n, many := k } := by
  have h2 := h.2.2.2.2.2.step hl (in2_13 { r with state := 2, left := n, many := k } _ rfl hc (by show (0 : Int) < k; omega))
  simpa using h2
end BD
end Go.Proofs.YtgdncdhalnijcaaDoor
