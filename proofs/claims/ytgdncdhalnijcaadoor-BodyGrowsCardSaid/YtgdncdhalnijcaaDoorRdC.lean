/- Walks and lemmas on the program of this seat, used by its statements; each theorem bears its own conditions. -/
import Derived.Test.YtgdncdhalnijcaaDoorRdB
namespace Go.Proofs.YtgdncdhalnijcaaDoor
open Go.RowKit
set_option linter.unusedVariables false
set_option linter.unusedSimpArgs false
namespace BD
def byteF (r : Rd) (c : UInt8) : Rd × Int :=
  if r.state = 2 then lineF r c
  else if r.state = 3 then (if c.toNat = 10 then beginsF { r with state := 4 } else (r, 180))
  else if r.state = 5 then isF r c.toNat 13 6
  else if r.state = 6 then isF r c.toNat 10 2
  else if r.state = 10 then isF r c.toNat 10 11
  else withinF r c

/-- Bounds on the numbers. -/
structure Rd.Bd (r : Rd) : Prop where
  m0 : 0 ≤ r.many
  m1 : r.many ≤ 300
  l0 : 0 ≤ r.lines
  l1 : r.lines ≤ 40
  f0 : 0 ≤ r.left
  f1 : r.left ≤ 16777216
  t0 : 0 ≤ r.told
  t1 : r.told ≤ 1048576
  n6 : r.state = 2 → r.many ≤ 6

theorem RdPost.up {b : Nat} {w w' : World} {res res' : Rd × Int} {e : Ending} (h : RdPost b w res e w') (hr : res = res') : RdPost b w res' e w' := hr ▸ h

theorem is_yes (b : Nat) (c want next : Int) (r : Rd) (w : World) (h : RdAt w b r) (hc : c = want) :
    Calls Tryd.prog 39 #[Ptr b, .int .u8 c, .int .u8 want, I next] w fun e w' => e = .returned (I 0) ∧ RdAt w' b { r with state := next } ∧ Kept [b] w w' :=
  (is_any b c want next r w h).mono fun e w' ⟨h1, h2, h3⟩ => by
    have hf : isF r c want next = ({ r with state := next }, 0) := by unfold isF; rw [if_pos hc]
    rw [hf] at h1 h2; exact ⟨h1, h2, h3⟩
theorem is_no (b : Nat) (c want next : Int) (r : Rd) (w : World) (h : RdAt w b r) (hc : ¬ c = want) :
    Calls Tryd.prog 39 #[Ptr b, .int .u8 c, .int .u8 want, I next] w fun e w' => e = .returned (I 180) ∧ RdAt w' b r ∧ Kept [b] w w' :=
  (is_any b c want next r w h).mono fun e w' ⟨h1, h2, h3⟩ => by
    have hf : isF r c want next = (r, 180) := by unfold isF; rw [if_neg hc]
    rw [hf] at h1 h2; exact ⟨h1, h2, h3⟩

set_option maxHeartbeats 1000000 in
theorem byte_any (b : Nat) (c : UInt8) (r : Rd) (w : World) (h : RdAt w b r) (hb : r.Bd) :
    Calls Tryd.prog 31 #[Ptr b, B c] w (RdPost b w (byteF r c)) := by
  obtain ⟨f0, f1, f2, f3, f4, f5, f6, f7⟩ := h.cells
  obtain ⟨g0, g1, g2, g3, g4, g5, g6, g7⟩ := h.free
  obtain ⟨p1, p2, p3⟩ := h.puts
  clear f1 f2 f3 f4 f5 f6 f7 g1 g2 g3 g4 g5 g6 g7 p1 p2 p3
  obtain ⟨m0, m1, l0, l1, e0, e1, t0, t1, n6⟩ := hb
  have N6 := Lib.hid n6
  clear n6
  by_cases h2 : r.state = 2
  · have k2 : (r.state == 2) = true := by simp [h2]
    have H2 := Lib.hid h2
    clear h2
    go_enter Tryd.func31, Tryd.ntmps31
    go_wp2_with (fail)
    refine (line_any b c r _ h m0 (N6.out H2.out) e0 e1).mono ?_
    rintro e w1 ⟨rfl, h1, q1⟩
    go_wp2_with (fail)
    go_ret
    exact RdPost.up (res := lineF r c) ⟨rfl, h1, q1⟩ (by unfold byteF; rw [if_pos H2.out])
  have k2 : (r.state == 2) = false := by simpa using h2
  by_cases h3 : r.state = 3
  · have k3 : (r.state == 3) = true := by simp [h3]
    have H2 := Lib.hid h2
    have H3 := Lib.hid h3
    clear h2 h3
    by_cases hc : (c.toNat : Int) = 10
    · have HC := Lib.hid hc
      clear hc
      go_enter Tryd.func31, Tryd.ntmps31
      go_wp2_with (fail)
      refine (is_yes b c.toNat 10 4 r _ h HC.out).mono ?_
      rintro e w1 ⟨rfl, h1, q1⟩
      go_wp2_with (fail)
      refine (begins_any b { r with state := 4 } _ h1 e0 e1 t0 t1).mono ?_
      rintro e w2 ⟨rfl, h2, q2⟩
      go_wp2_with (fail)
      go_ret
      exact RdPost.up (res := beginsF { r with state := 4 }) ⟨rfl, h2, q1.trans' q2⟩ (by unfold byteF; rw [if_neg H2.out, if_pos H3.out, if_pos (by have := HC.out; omega)])
    · have HC := Lib.hid hc
      clear hc
      go_enter Tryd.func31, Tryd.ntmps31
      go_wp2_with (fail)
      refine (is_no b c.toNat 10 4 r _ h HC.out).mono ?_
      rintro e w1 ⟨rfl, h1, q1⟩
      go_wp2_with (fail)
      go_ret
      exact RdPost.up (res := (r, 180)) ⟨rfl, h1, q1⟩ (by unfold byteF; rw [if_neg H2.out, if_pos H3.out, if_neg (by have := HC.out; omega)])
  have k3 : (r.state == 3) = false := by simpa using h3
  by_cases h5 : r.state = 5
  · have k5 : (r.state == 5) = true := by simp [h5]
    have HH : Hid (byteF r c = isF r c.toNat 13 6) := by unfold Hid byteF; rw [if_neg h2, if_neg h3, if_pos h5]
    clear h2 h3 h5
    go_enter Tryd.func31, Tryd.ntmps31
    go_wp2_with (fail)
    refine (is_any b c.toNat 13 6 r _ h).mono ?_
    rintro e w1 ⟨rfl, h1, q1⟩
    go_wp2_with (fail)
    go_ret
    exact RdPost.up (res := isF r c.toNat 13 6) ⟨rfl, h1, q1⟩ HH.out.symm
  have k5 : (r.state == 5) = false := by simpa using h5
  by_cases h6 : r.state = 6
  · have k6 : (r.state == 6) = true := by simp [h6]
    have HH : Hid (byteF r c = isF r c.toNat 10 2) := by unfold Hid byteF; rw [if_neg h2, if_neg h3, if_neg h5, if_pos h6]
    clear h2 h3 h5 h6
    go_enter Tryd.func31, Tryd.ntmps31
    go_wp2_with (fail)
    refine (is_any b c.toNat 10 2 r _ h).mono ?_
    rintro e w1 ⟨rfl, h1, q1⟩
    go_wp2_with (fail)
    go_ret
    exact RdPost.up (res := isF r c.toNat 10 2) ⟨rfl, h1, q1⟩ HH.out.symm
  have k6 : (r.state == 6) = false := by simpa using h6
  by_cases h10 : r.state = 10
  · have k10 : (r.state == 10) = true := by simp [h10]
    have HH : Hid (byteF r c = isF r c.toNat 10 11) := by unfold Hid byteF; rw [if_neg h2, if_neg h3, if_neg h5, if_neg h6, if_pos h10]
    clear h2 h3 h5 h6 h10
    go_enter Tryd.func31, Tryd.ntmps31
    go_wp2_with (fail)
    refine (is_any b c.toNat 10 11 r _ h).mono ?_
    rintro e w1 ⟨rfl, h1, q1⟩
    go_wp2_with (fail)
    go_ret
    exact RdPost.up (res := isF r c.toNat 10 11) ⟨rfl, h1, q1⟩ HH.out.symm
  have k10 : (r.state == 10) = false := by simpa using h10
  have HH : Hid (byteF r c = withinF r c) := by unfold Hid byteF; rw [if_neg h2, if_neg h3, if_neg h5, if_neg h6, if_neg h10]
  clear h2 h3 h5 h6 h10
  go_enter Tryd.func31, Tryd.ntmps31
  go_wp2_with (fail)
  refine (within_any b c r _ h m0 m1 l0 l1).mono ?_
  rintro e w1 ⟨rfl, h1, q1⟩
  go_wp2_with (fail)
  go_ret
  exact RdPost.up (res := withinF r c) ⟨rfl, h1, q1⟩ HH.out.symm
end BD
end Go.Proofs.YtgdncdhalnijcaaDoor
