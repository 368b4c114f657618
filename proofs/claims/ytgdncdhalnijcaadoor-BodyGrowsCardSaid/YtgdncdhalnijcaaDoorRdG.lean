/- Walks and lemmas on the program of this seat, used by its statements; each theorem bears its own conditions. -/
import Derived.Test.YtgdncdhalnijcaaDoorRdF
namespace Go.Proofs.YtgdncdhalnijcaaDoor
open Go.RowKit
set_option linter.unusedVariables false
set_option linter.unusedSimpArgs false
namespace BD
def writeF (r : Rd) (l : List UInt8) : Rd × List UInt8 × Int :=
  if r.e = 0 then ({ (goesF r l).1 with e := (goesF r l).2.2 }, (goesF r l).2.1, (goesF r l).2.2) else (r, [], r.e)
/-- What may be while nothing was wrong; else nothing is asked. -/
def Rd.Ok (r : Rd) : Prop := r.e = 0 → r.Inv ∧ 0 ≤ r.state ∧ r.state ≤ 11

set_option maxHeartbeats 400000 in
theorem write_any (b : Nat) (l : List UInt8) (r : Rd) (w : World) (h : RdAt w b r) (hi : r.Ok) (hn : r.rest.length + l.length ≤ 1000000000) :
    Calls Tryd.prog 8 #[Ptr b, S l] w (GoesPost b w (writeF r l)) := by
  obtain ⟨f0, f1, f2, f3, f4, f5, f6, f7⟩ := h.cells
  obtain ⟨g0, g1, g2, g3, g4, g5, g6, g7⟩ := h.free
  obtain ⟨p1, p2, p3⟩ := h.puts
  by_cases he : r.e = 0
  · have ke : (r.e != 0) = false := by simp [he]
    obtain ⟨hi1, hs⟩ := hi he
    have HF : Hid (writeF r l = ({ (goesF r l).1 with e := (goesF r l).2.2 }, (goesF r l).2.1, (goesF r l).2.2)) := by unfold Hid writeF; rw [if_pos he]
    clear he hi
    go_enter Tryd.func8, Tryd.ntmps8
    go_wp2_with (fail)
    refine (goes_any b l r w h hi1 hs hn).mono ?_
    rintro e w1 ⟨rfl, h1, q1⟩
    obtain ⟨⟨f0, f1, f2, f3, f4, f5, f6, f7⟩, ⟨g0, g1, g2, g3, g4, g5, g6, g7⟩, ⟨p1, p2, p3⟩⟩ := And.intro h1.cells (And.intro h1.free h1.puts)
    have H1 := h1
    clear h1
    go_wp2_with (fail)
    go_ret2
    exact GoesPost.mk (H1.set7 _) (q1.setCell (by simp) _) HF.out
  · have ke : (r.e != 0) = true := by simpa using he
    have HF : Hid (writeF r l = (r, [], r.e)) := by unfold Hid writeF; rw [if_neg he]
    clear he hi
    have H := h
    go_enter Tryd.func8, Tryd.ntmps8
    go_wp2_with (fail)
    go_quiet (fail)
    go_wp2_with (fail)
    go_ret2
    exact GoesPost.mk (H.drewN _) ((Kept.refl _ _).drewN _) HF.out

def doneF (r : Rd) : Bool := decide (r.state = 11 ∧ r.e = 0)
theorem ret_B {a b : Bool} (h : a = b) : Ending.returned (.bool a) = .returned (.bool b) := by rw [h]
set_option maxHeartbeats 400000 in
theorem done_any (b : Nat) (r : Rd) (w : World) (h : RdAt w b r) :
    Calls Tryd.prog 11 #[Ptr b] w fun e w' => e = .returned (.bool (doneF r)) ∧ w = w' := by
  obtain ⟨f0, f1, f2, f3, f4, f5, f6, f7⟩ := h.cells
  obtain ⟨g0, g1, g2, g3, g4, g5, g6, g7⟩ := h.free
  obtain ⟨p1, p2, p3⟩ := h.puts
  go_enter Tryd.func11, Tryd.ntmps11
  go_wp2_with (fail)
  all_goals go_ret
  all_goals
    refine ⟨ret_B ?_, rfl⟩
    unfold doneF
    by_cases h2 : r.e = 0 <;> simp_all
set_option maxHeartbeats 400000 in
theorem told_any (b : Nat) (r : Rd) (w : World) (h : RdAt w b r) : Calls Tryd.prog 13 #[Ptr b] w fun e w' => e = .returned (I r.told) ∧ w = w' := by
  obtain ⟨f0, f1, f2, f3, f4, f5, f6, f7⟩ := h.cells
  obtain ⟨g0, g1, g2, g3, g4, g5, g6, g7⟩ := h.free
  obtain ⟨p1, p2, p3⟩ := h.puts
  go_enter Tryd.func13, Tryd.ntmps13
  go_wp2_with (fail)
  go_ret
  exact ⟨rfl, rfl⟩
set_option maxHeartbeats 400000 in
theorem size_any (b : Nat) (r : Rd) (w : World) (h : RdAt w b r) : Calls Tryd.prog 14 #[Ptr b] w fun e w' => e = .returned (I r.size) ∧ w = w' := by
  obtain ⟨f0, f1, f2, f3, f4, f5, f6, f7⟩ := h.cells
  obtain ⟨g0, g1, g2, g3, g4, g5, g6, g7⟩ := h.free
  obtain ⟨p1, p2, p3⟩ := h.puts
  go_enter Tryd.func14, Tryd.ntmps14
  go_wp2_with (fail)
  go_ret
  exact ⟨rfl, rfl⟩
def restF (r : Rd) : List UInt8 := if doneF r = true then r.rest else []
set_option maxHeartbeats 400000 in
theorem rest_any (b : Nat) (r : Rd) (w : World) (h : RdAt w b r) : Calls Tryd.prog 12 #[Ptr b] w fun e w' => e = .returned (S (restF r)) ∧ w = w' := by
  obtain ⟨f0, f1, f2, f3, f4, f5, f6, f7⟩ := h.cells
  obtain ⟨g0, g1, g2, g3, g4, g5, g6, g7⟩ := h.free
  obtain ⟨p1, p2, p3⟩ := h.puts
  cases hd : doneF r with
  | true =>
    have HF : Hid (restF r = r.rest) := by unfold Hid restF; rw [if_pos hd]
    go_enter Tryd.func12, Tryd.ntmps12
    go_wp2_with (fail)
    refine (done_any b r w h).mono ?_
    rintro e w1 ⟨rfl, rfl⟩
    go_wp2_with (fail)
    go_ret
    exact ⟨by rw [HF.out]; rfl, rfl⟩
  | false =>
    have HF : Hid (restF r = []) := by unfold Hid restF; rw [if_neg (by simp [hd])]
    go_enter Tryd.func12, Tryd.ntmps12
    go_wp2_with (fail)
    refine (done_any b r w h).mono ?_
    rintro e w1 ⟨rfl, rfl⟩
    go_wp2_with (fail)
    go_ret
    exact ⟨by rw [HF.out]; rfl, rfl⟩
def closeF (r : Rd) : Rd × Int :=
  if r.e ≠ 0 ∨ r.state = 11 then (r, r.e) else if r.state = 1 then ({ r with state := 11 }, 0) else ({ r with e := 182 }, 182)
set_option maxHeartbeats 400000 in
theorem close_any (b : Nat) (r : Rd) (w : World) (h : RdAt w b r) : Calls Tryd.prog 10 #[Ptr b] w (RdPost b w (closeF r)) := by
  obtain ⟨f0, f1, f2, f3, f4, f5, f6, f7⟩ := h.cells
  obtain ⟨g0, g1, g2, g3, g4, g5, g6, g7⟩ := h.free
  obtain ⟨p1, p2, p3⟩ := h.puts
  go_enter Tryd.func10, Tryd.ntmps10
  go_wp2_with (fail)
  all_goals go_ret
  all_goals clear f0 f1 f2 f3 f4 f5 f6 f7 g0 g1 g2 g3 g4 g5 g6 g7 p1 p2 p3
  all_goals
    refine RdPost.mk (by with_reducible repeat (first | exact h | apply RdAt.drew | apply RdAt.drewN | apply RdAt.set0 | apply RdAt.set2 | apply RdAt.set3 | apply RdAt.set4 | apply RdAt.set5 | apply RdAt.set7)) (by with_reducible repeat (first | exact Kept.refl _ _ | refine Kept.drew ?_ | refine Kept.drewN ?_ _ | refine Kept.setCell ?_ (by simp) _)) ?_
  all_goals clear h
  all_goals unfold closeF
  all_goals ((try simp only [beq_iff_eq, bne_iff_ne, beq_eq_false_iff_ne, bne_eq_false_iff_eq, ne_eq, Bool.not_eq_true, Bool.not_eq_false, Bool.or_eq_true, Bool.and_eq_true, decide_eq_true_eq, decide_eq_false_iff_not] at *); (repeat' split) <;> first | rfl | (exfalso; omega) | (simp_all; done) | (simp_all; omega))
set_option maxHeartbeats 400000 in
theorem clone_any (b : Nat) (r : Rd) (w : World) (h : RdAt w b r) : Calls Tryd.prog 7 #[Ptr b] w fun e w' => e = .returned (Ptr w.heap.size) ∧ w' = w.alloc r.obj := by
  obtain ⟨f0, f1, f2, f3, f4, f5, f6, f7⟩ := h.cells
  obtain ⟨g0, g1, g2, g3, g4, g5, g6, g7⟩ := h.free
  obtain ⟨p1, p2, p3⟩ := h.puts
  go_enter Tryd.func7, Tryd.ntmps7
  go_wp2_with (fail)
  go_ret
  exact ⟨rfl, rfl⟩
end BD
end Go.Proofs.YtgdncdhalnijcaaDoor
