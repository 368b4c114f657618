/- Walks and lemmas on the program of this seat, used by its statements; each theorem bears its own conditions. -/
import Derived.Test.YtgdncdhalnijcaaDoorRdA
namespace Go.Proofs.YtgdncdhalnijcaaDoor
open Go.RowKit
set_option linter.unusedVariables false
set_option linter.unusedSimpArgs false
namespace BD
def withinF (r : Rd) (c : UInt8) : Rd × Int :=
  if c.toNat = 13 ∧ r.state = 7 then ({ r with state := 10 }, 0)
  else if r.state = 7 then
    if r.lines + 1 > 32 then ({ r with lines := r.lines + 1 }, 180)
    else if c.toNat = 13 then ({ r with lines := r.lines + 1, many := 0, state := 9 }, 0)
    else ({ r with lines := r.lines + 1, many := 1, state := 8 }, 0)
  else if c.toNat = 10 ∧ r.state = 9 then ({ r with state := 7 }, 0)
  else
    let m := if r.state = 9 then r.many + 1 else r.many
    if c.toNat = 13 then ({ r with many := m, state := 9 }, if m > 256 then 181 else 0)
    else ({ r with many := m + 1, state := 8 }, if m + 1 > 256 then 181 else 0)

set_option maxHeartbeats 1000000 in
theorem within_any (b : Nat) (c : UInt8) (r : Rd) (w : World) (h : RdAt w b r) (hm : 0 ≤ r.many) (hm' : r.many ≤ 300) (hl : 0 ≤ r.lines) (hl' : r.lines ≤ 40) :
    Calls Tryd.prog 41 #[Ptr b, B c] w (RdPost b w (withinF r c)) := by
  obtain ⟨f0, f1, f2, f3, f4, f5, f6, f7⟩ := h.cells
  obtain ⟨g0, g1, g2, g3, g4, g5, g6, g7⟩ := h.free
  obtain ⟨p1, p2, p3⟩ := h.puts
  have hc : c.toNat < 256 := c.toNat_lt
  have hlo : (0 : Int) ≤ (c.toNat : Int) := by omega
  have hhi : (c.toNat : Int) ≤ 255 := by omega
  go_enter Tryd.func41, Tryd.ntmps41
  go_wp2_with (fail)
  all_goals go_ret
  all_goals clear f0 f1 f2 f3 f4 f5 f6 f7 g0 g1 g2 g3 g4 g5 g6 g7 p1 p2 p3
  all_goals
    refine RdPost.mk (by with_reducible repeat (first | exact h | apply RdAt.drew | apply RdAt.drewN | apply RdAt.set0 | apply RdAt.set2 | apply RdAt.set3 | apply RdAt.set4 | apply RdAt.set5 | apply RdAt.set7)) (by with_reducible repeat (first | exact Kept.refl _ _ | refine Kept.drew ?_ | refine Kept.drewN ?_ _ | refine Kept.setCell ?_ (by simp) _)) ?_
  all_goals clear h
  all_goals unfold withinF
  all_goals ((try simp only [beq_iff_eq, bne_iff_ne, beq_eq_false_iff_ne, bne_eq_false_iff_eq, ne_eq, Bool.not_eq_true, Bool.not_eq_false, Bool.or_eq_true, Bool.and_eq_true, decide_eq_true_eq, decide_eq_false_iff_not] at *); (repeat' split) <;> first | rfl | (exfalso; omega) | (simp_all; done) | (simp_all; omega))
end BD
end Go.Proofs.YtgdncdhalnijcaaDoor
