/- Walks and lemmas on the program of this seat, used by its statements; each theorem bears its own conditions. -/
import Derived.Test.YtgdncdhalnijcaaDoorRdC
namespace Go.Proofs.YtgdncdhalnijcaaDoor
open Go.RowKit
set_option linter.unusedVariables false
set_option linter.unusedSimpArgs false
namespace BD
def someF (r : Rd) (n : Int) : Rd × Int × Int :=
  if r.state = 1 then (if n > 1048576 - r.told then (r, 0, 181) else (r, n, 0))
  else if r.left - min n r.left = 0 then ({ r with left := r.left - min n r.left, state := if r.state = 0 then 11 else 5 }, min n r.left, 0)
  else ({ r with left := r.left - min n r.left }, min n r.left, 0)
def SomePost (b : Nat) (w : World) (res : Rd × Int × Int) (e : Ending) (w' : World) : Prop := e = .returned (.tuple #[I res.2.1, I res.2.2]) ∧ RdAt w' b res.1 ∧ Kept [b] w w'
theorem SomePost.mk {b : Nat} {w w' : World} {res : Rd × Int × Int} {r' : Rd} {n k : Int} (h1 : RdAt w' b r') (h2 : Kept [b] w w') (h : res = (r', n, k)) : SomePost b w res (.returned (.tuple #[I n, I k])) w' := by
  subst h; exact ⟨rfl, h1, h2⟩

set_option maxHeartbeats 1000000 in
theorem some_any (b : Nat) (l : List UInt8) (r : Rd) (w : World) (h : RdAt w b r) (hb : r.Bd) (hn : (l.length : Int) ≤ 4611686018427387904) :
    Calls Tryd.prog 29 #[Ptr b, S l] w (SomePost b w (someF r l.length)) := by
  obtain ⟨f0, f1, f2, f3, f4, f5, f6, f7⟩ := h.cells
  obtain ⟨g0, g1, g2, g3, g4, g5, g6, g7⟩ := h.free
  obtain ⟨p1, p2, p3⟩ := h.puts
  clear f1 f3 f4 f6 f7 g1 g3 g4 g6 g7
  obtain ⟨m0, m1, l0, l1, e0, e1, t0, t1, n6⟩ := hb
  have hn0 : 0 ≤ (l.length : Int) := by omega
  by_cases h1 : r.state = 1
  · have k1 : (r.state == 1) = true := by simp [h1]
    have H1 := Lib.hid h1
    clear h1
    go_enter Tryd.func29, Tryd.ntmps29
    go_wp2_with (fail)
    all_goals go_ret2
    all_goals
      refine SomePost.mk (by with_reducible repeat (first | exact h | apply RdAt.drew | apply RdAt.drewN | apply RdAt.set0 | apply RdAt.set2 | apply RdAt.set3 | apply RdAt.set4 | apply RdAt.set5 | apply RdAt.set7)) (by with_reducible repeat (first | exact Kept.refl _ _ | refine Kept.drew ?_ | refine Kept.drewN ?_ _ | refine Kept.setCell ?_ (by simp) _)) ?_
    all_goals (have h1 := H1.out; unfold someF; (try simp only [beq_iff_eq, bne_iff_ne, beq_eq_false_iff_ne, bne_eq_false_iff_eq, ne_eq, Bool.not_eq_true, Bool.not_eq_false, Bool.or_eq_true, Bool.and_eq_true, decide_eq_true_eq, decide_eq_false_iff_not] at *); (repeat' split) <;> first | rfl | (exfalso; omega) | (simp_all; done) | (simp_all; omega))
  · have k1 : (r.state == 1) = false := by simpa using h1
    have H1 := Lib.hid h1
    clear h1
    go_enter Tryd.func29, Tryd.ntmps29
    go_wp2_with (fail)
    all_goals go_ret2
    all_goals
      refine SomePost.mk (by with_reducible repeat (first | exact h | apply RdAt.drew | apply RdAt.drewN | apply RdAt.set0 | apply RdAt.set2 | apply RdAt.set3 | apply RdAt.set4 | apply RdAt.set5 | apply RdAt.set7)) (by with_reducible repeat (first | exact Kept.refl _ _ | refine Kept.drew ?_ | refine Kept.drewN ?_ _ | refine Kept.setCell ?_ (by simp) _)) ?_
    all_goals (have h1 := H1.out; unfold someF; (try simp only [beq_iff_eq, bne_iff_ne, beq_eq_false_iff_ne, bne_eq_false_iff_eq, ne_eq, Bool.not_eq_true, Bool.not_eq_false, Bool.or_eq_true, Bool.and_eq_true, decide_eq_true_eq, decide_eq_false_iff_not] at *); (repeat' split) <;> first | rfl | (exfalso; omega) | (simp_all; done) | (simp_all; omega))
end BD
end Go.Proofs.YtgdncdhalnijcaaDoor
