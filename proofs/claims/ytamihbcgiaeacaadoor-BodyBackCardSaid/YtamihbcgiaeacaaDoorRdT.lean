/- Walks and lemmas on the program of this seat, used by its statements; each theorem bears its own conditions. -/
import Derived.Test.YtamihbcgiaeacaaDoorRdS
namespace Go.Proofs.YtamihbcgiaeacaaDoor
open Go.RowKit
set_option linter.unusedVariables false
set_option linter.unusedSimpArgs false
/-! ### Texts laid as chunks -/
def hexD (n : Nat) : UInt8 := if n < 10 then UInt8.ofNat (48 + n) else if n = 10 then 97 else if n = 11 then 66 else if n = 12 then 99 else if n = 13 then 68 else if n = 14 then 101 else 70
def hexL (fuel : Nat) (n : Nat) : List UInt8 := match fuel with | 0 => [hexD (n % 16)] | f + 1 => if n < 16 then [hexD n] else hexL f (n / 16) ++ [hexD (n % 16)]
theorem hexD_val : ∀ d, d < 16 → digitF (hexD d) = d ∧ (hexD d).toNat ≠ 13 := by decide
theorem feed_dig (r : Rd) (c : UInt8) (h1 : r.state = 2) (hd : 0 ≤ digitF c) (h13 : c.toNat ≠ 13) (h6 : r.many ≠ 6) : feed r c = ({ r with left := 16 * r.left + digitF c, many := r.many + 1 }, [], 0) := by
  have hb : byteF r c = ({ r with left := 16 * r.left + digitF c, many := r.many + 1 }, 0) := by
    unfold byteF lineF; rw [if_pos h1, if_neg (by omega), if_neg (by omega)]
  unfold feed; rw [if_neg (by omega), if_neg (by omega), if_neg (by omega), if_neg (by omega), hb]
theorem feed_dig' (r : Rd) (n : Nat) (v m : Int) (h1 : r.state = 2) (hn : n < 16) (h6 : r.many ≠ 6) (hv : v = 16 * r.left + n) (hm : m = r.many + 1) : feed r (hexD n) = ({ r with left := v, many := m }, [], 0) := by
  obtain ⟨d1, d2⟩ := hexD_val n hn
  subst hv hm
  rw [feed_dig r _ h1 (by omega) d2 h6, d1]
/-- A chunk's number is told digit by digit. -/
theorem feeds_hex (f : Nat) : ∀ (n : Nat) (r : Rd), n < 16 ^ (f + 1) → f < 6 → r.state = 2 → r.many = 0 → r.left = 0 →
    ∃ k : Int, feeds r (hexL f n) = ({ r with left := n, many := k }, [], 0) ∧ 0 < k ∧ k ≤ f + 1 := by
  induction f with
  | zero =>
    intro n r hn _ h1 h2 h3
    have hn16 : n < 16 := by simpa using hn
    refine ⟨1, ?_, by decide, by simp⟩
    have e : feed r (hexD n) = ({ r with left := n, many := 1 }, [], 0) := feed_dig' r n _ _ h1 hn16 (by omega) (by omega) (by omega)
    have hx : hexL 0 n = [hexD n] := by simp [hexL, Nat.mod_eq_of_lt hn16]
    rw [hx]
    exact feeds_cons_ok e (feeds_nil _)
  | succ f ih =>
    intro n r hn hf h1 h2 h3
    by_cases hn16 : n < 16
    · refine ⟨1, ?_, by decide, by omega⟩
      have e : feed r (hexD n) = ({ r with left := n, many := 1 }, [], 0) := feed_dig' r n _ _ h1 hn16 (by omega) (by omega) (by omega)
      have hx : hexL (f + 1) n = [hexD n] := by simp [hexL, hn16]
      rw [hx]
      exact feeds_cons_ok e (feeds_nil _)
    · have hdiv : n / 16 < 16 ^ (f + 1) := by
        rw [Nat.div_lt_iff_lt_mul (by decide)]
        rw [Nat.pow_succ] at hn
        exact hn
      obtain ⟨k, hk, hk0, hk1⟩ := ih (n / 16) r hdiv (by omega) h1 h2 h3
      refine ⟨k + 1, ?_, by omega, by omega⟩
      have hx : hexL (f + 1) n = hexL f (n / 16) ++ [hexD (n % 16)] := by simp [hexL, hn16]
      rw [hx]
      have e : feed { r with left := (n / 16 : Nat), many := k } (hexD (n % 16)) = ({ r with left := n, many := k + 1 }, [], 0) := feed_dig' _ (n % 16) _ _ h1 (Nat.mod_lt _ (by decide)) (by simp only; omega) (by simp only; omega) rfl
      have := feeds_go hk (feeds_cons_ok e (feeds_nil _))
      simpa using this
/-- A text laid as a chunk. -/
def chunkL (x : List UInt8) : List UInt8 := hexL 5 x.length ++ [13, 10] ++ x ++ [13, 10]
theorem feeds_chunk (x : List UInt8) (r : Rd) (hx : x ≠ []) (h1 : r.state = 2) (h2 : r.many = 0) (h3 : r.left = 0) (h4 : 0 ≤ r.told) (h5 : r.told + x.length ≤ 1048576) :
    feeds r (chunkL x) = ({ r with told := r.told + x.length }, x, 0) := by
  have hl : 0 < x.length := List.length_pos_iff.2 hx
  have hp : x.length < 16 ^ (5 + 1) := by
    have h16 : (16 : Nat) ^ (5 + 1) = 16777216 := by decide
    rw [h16]; omega
  obtain ⟨k, hk, hk0, _⟩ := feeds_hex 5 x.length r hp (by decide) h1 h2 h3
  have e1 : feed { r with left := x.length, many := k } 13 = ({ r with left := x.length, many := k, state := 3 }, [], 0) := by
    simp [feed, h1, byteF, lineF, hk0]
  have e2 : feed { r with left := x.length, many := k, state := 3 } 10 = ({ r with left := x.length, many := 0, state := 4 }, [], 0) := by
    have hz : ¬ ((x.length : Int) = 0) := by omega
    have hb : ¬ ((x.length : Int) > 1048576 - r.told) := by omega
    simp only [feed, byteF, beginsF]
    simp [hb, hx]
  have e3 := feeds_some 4 x { r with left := x.length, many := 0, state := 4 } rfl (.inr rfl) (by simpa using hl) hx (by simp)
  simp only [Int.sub_self, if_true] at e3
  rw [if_neg (by decide)] at e3
  have e4 : feed { r with left := 0, many := 0, told := r.told + x.length, state := 5 } 13 = ({ r with left := 0, many := 0, told := r.told + x.length, state := 6 }, [], 0) := by
    simp [feed, byteF, isF]
  have e5 : feed { r with left := 0, many := 0, told := r.told + x.length, state := 6 } 10 = ({ r with left := 0, many := 0, told := r.told + x.length, state := 2 }, [], 0) := by
    simp [feed, byteF, isF]
  have hfin : ({ r with left := 0, many := 0, told := r.told + x.length, state := 2 } : Rd) = { r with told := r.told + x.length } := by
    cases r; simp_all
  rw [hfin] at e5
  have g1 := feeds_go hk (feeds_cons_ok e1 (feeds_cons_ok e2 (feeds_nil _)))
  have g2 := feeds_go g1 e3
  have g3 := feeds_go g2 (feeds_cons_ok e4 (feeds_cons_ok e5 (feeds_nil _)))
  simpa [chunkL] using g3
/-- "000" and its line's end. -/
theorem feeds_zero (r : Rd) (h1 : r.state = 2) (h2 : r.many = 0) (h3 : r.left = 0) : feeds r [48, 48, 48, 13, 10] = ({ r with state := 7 }, [], 0) := by
  have e1 : feed r 48 = ({ r with left := 0, many := 1 }, [], 0) := feed_dig' r 0 0 1 h1 (by decide) (by omega) (by omega) (by omega)
  have e2 : feed { r with left := 0, many := 1 } 48 = ({ r with left := 0, many := 2 }, [], 0) := feed_dig' { r with left := 0, many := 1 } 0 0 2 h1 (by decide) (by simp) (by simp) (by simp)
  have e3 : feed { r with left := 0, many := 2 } 48 = ({ r with left := 0, many := 3 }, [], 0) := feed_dig' { r with left := 0, many := 2 } 0 0 3 h1 (by decide) (by simp) (by simp) (by simp)
  have e4 : feed { r with left := 0, many := 3 } 13 = ({ r with left := 0, many := 3, state := 3 }, [], 0) := by
    simp [feed, h1, byteF, lineF]
  have e5 : feed { r with left := 0, many := 3, state := 3 } 10 = ({ r with left := 0, many := 0, state := 7 }, [], 0) := by
    simp [feed, byteF, beginsF]
  have hfin : ({ r with left := 0, many := 0, state := 7 } : Rd) = { r with state := 7 } := by cases r; simp_all
  rw [hfin] at e5
  exact feeds_cons_ok e1 (feeds_cons_ok e2 (feeds_cons_ok e3 (feeds_cons_ok e4 (feeds_cons_ok e5 (feeds_nil _)))))
/-- A line behind the last chunk. -/
def lineL : List UInt8 := [97, 110, 121, 32, 13, 32, 108, 105, 110, 101, 13, 10]
theorem feeds_line (r : Rd) (h1 : r.state = 7) (h2 : r.lines < 32) : ∃ m : Int, feeds r lineL = ({ r with lines := r.lines + 1, many := m }, [], 0) := by
  have hn : ¬ r.lines + 1 > 32 := by omega
  have step8 : ∀ (c : UInt8) (m : Int), 0 ≤ m → m < 200 → c.toNat ≠ 13 → feed { r with lines := r.lines + 1, many := m, state := 8 } c = ({ r with lines := r.lines + 1, many := m + 1, state := 8 }, [], 0) := by
    intro c m hm hm2 hc
    have hb : ¬ 256 < m + 1 := by omega
    simp [feed, byteF, withinF, hc, hb]
  have step13 : ∀ (m : Int), 0 ≤ m → m < 200 → feed { r with lines := r.lines + 1, many := m, state := 8 } 13 = ({ r with lines := r.lines + 1, many := m, state := 9 }, [], 0) := by
    intro m hm hm2
    have hb : ¬ 256 < m := by omega
    simp [feed, byteF, withinF, hb]
  have e1 : feed r 97 = ({ r with lines := r.lines + 1, many := 1, state := 8 }, [], 0) := by
    simp [feed, byteF, withinF, h1, hn]
  have e6 : feed { r with lines := r.lines + 1, many := 4, state := 9 } 32 = ({ r with lines := r.lines + 1, many := 6, state := 8 }, [], 0) := by
    simp [feed, byteF, withinF]
  have e12 : feed { r with lines := r.lines + 1, many := 10, state := 9 } 10 = ({ r with lines := r.lines + 1, many := 10, state := 7 }, [], 0) := by
    simp [feed, byteF, withinF]
  have hfin : ({ r with lines := r.lines + 1, many := 10, state := 7 } : Rd) = { r with lines := r.lines + 1, many := 10 } := by cases r; simp_all
  rw [hfin] at e12
  exact ⟨10, feeds_cons_ok e1 (feeds_cons_ok (step8 110 1 (by decide) (by decide) (by decide)) (feeds_cons_ok (step8 121 2 (by decide) (by decide) (by decide)) (feeds_cons_ok (step8 32 3 (by decide) (by decide) (by decide))
    (feeds_cons_ok (step13 4 (by decide) (by decide)) (feeds_cons_ok e6 (feeds_cons_ok (step8 108 6 (by decide) (by decide) (by decide)) (feeds_cons_ok (step8 105 7 (by decide) (by decide) (by decide)) (feeds_cons_ok (step8 110 8 (by decide) (by decide) (by decide))
    (feeds_cons_ok (step8 101 9 (by decide) (by decide) (by decide)) (feeds_cons_ok (step13 10 (by decide) (by decide)) (feeds_cons_ok e12 (feeds_nil _))))))))))))⟩
end Go.Proofs.YtamihbcgiaeacaaDoor
