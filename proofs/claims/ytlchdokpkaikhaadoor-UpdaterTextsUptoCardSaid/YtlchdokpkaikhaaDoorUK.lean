/- Walks and lemmas on the program of this seat, used by its statements; each theorem bears its own conditions. -/
import Derived.Test.YtlchdokpkaikhaaDoorUJ
import Derived.Handy
import Derived.IntWalk
import Derived.Deep.RegionHeld3
import Derived.OwnWalk
import Derived.Deep.AppendLies
import Derived.Lib.SmallJoins
namespace Go.Proofs.YtlchdokpkaikhaaDoor
open Go.RowKit
set_option linter.unusedVariables false
set_option linter.unusedSimpArgs false
theorem rparse_len {t : List UInt8} (h : t.length ≠ 59) : parseF t = (zeroS, 250) := by
  refine parseF_no ?_
  rintro ⟨s, _, rfl⟩
  exact h (printL_len s)
/-! ### fixed -/
theorem step_at (s t : St) (e : Ev) (a : Int) (w : World) (h : stepF s e = (t, a)) :
    Calls Tryd.prog 9 #[VS s, VE e] w fun r w' => r = .returned (.tuple #[VS t, I a]) ∧ Kept [] w w' := by
  have := step_any s e w
  rw [h] at this
  exact this
theorem parse_at (t : List UInt8) (s : St) (n : Int) (w : World) (h : parseF t = (s, n)) (hl : t.length ≤ 1073741824) (hT : Tabs w) :
    Calls Tryd.prog 16 #[S t] w fun e w' => e = .returned (.tuple #[VS s, I n]) ∧ Kept [] w w' := by
  have := parse_any t w hl hT
  rw [h] at this
  exact this
def zeroL : List UInt8 := [115, 116, 97, 116, 101, 32, 48, 32, 48, 48, 48, 48, 48, 48, 48, 48, 48, 48, 32, 48, 32, 48, 48, 48, 48, 48, 48, 48, 48, 32, 48, 48, 48, 48, 48, 48, 48, 48, 48, 48, 48, 48, 48, 48, 48, 32, 48, 32, 48, 48, 48, 48, 48, 48, 48, 48, 48, 48, 10]
theorem may_zero : MayP zeroS := by decide
theorem print_zero : printF zeroS = (zeroL, 0) := by decide +kernel
theorem printL_zero : printL zeroS = zeroL := by decide +kernel
theorem parse_zero : parseF zeroL = (zeroS, 0) := by rw [← printL_zero]; exact parseF_yes may_zero
theorem parse_nil : parseF [] = (zeroS, 250) := rparse_len (by decide)
set_option maxHeartbeats 8000000 in
set_option maxRecDepth 100000 in
theorem fixed_any (w : World) (hT : Tabs w) :
    Calls Tryd.prog 11 #[] w fun e w' => e = .returned (.bool true) ∧ Kept [] w w' := by
  have HT := Lib.hid hT
  clear hT
  go_enter Tryd.func11, Tryd.ntmps11
  go_wp2_with (fail)
  refine (step_at zeroS ⟨1, 5, 1, 0, 0, false, 0⟩ ⟨0, 5, 1, 0, 0, false, false⟩ 1 _ (by decide)).mono ?_
  rintro e w1 ⟨rfl, k1⟩
  have H1 := Lib.hid k1
  clear k1
  go_wp2_with (fail)
  refine (print_at zeroS zeroL 0 _ print_zero ((HT.out.kept H1.out).kept ((Kept.refl _ _).alloc _))).mono ?_
  rintro e w2 ⟨rfl, k2⟩
  have b2 : w2.heap[w1.heap.size]? = some (boxS ⟨1, 5, 1, 0, 0, false, 0⟩) := k2.at (heap_new w1 _) (by simp)
  have H2 := Lib.hid (And.intro b2 (H1.out.trans' (((Kept.refl [] w1).alloc _).trans' k2)))
  clear b2 k2
  go_wp2_with (fail)
  refine (parse_at zeroL zeroS 0 w2 parse_zero (by decide) (HT.out.kept H2.out.2)).mono ?_
  rintro e w3 ⟨rfl, k3⟩
  have H3 := Lib.hid (And.intro (k3.at H2.out.1 (by simp)) (H2.out.2.trans' k3))
  clear k3
  go_wp2_with (fail)
  refine (parse_at [] zeroS 250 _ parse_nil (by decide) ((HT.out.kept H3.out.2).kept ((Kept.refl _ _).alloc _))).mono ?_
  rintro e w4 ⟨rfl, k4⟩
  have k4' := ((Kept.refl [] w3).alloc (boxS zeroS)).trans' k4
  have b4 : w4.heap[w3.heap.size]? = some (boxS zeroS) := k4.at (heap_new w3 _) (by simp)
  have c4 : w4.heap[w1.heap.size]? = some (boxS ⟨1, 5, 1, 0, 0, false, 0⟩) := k4'.at H3.out.1 (by simp)
  obtain ⟨p0, p1, p2, p3, p4, p5, p6⟩ := cells7 c4
  have L1 : w1.heap.size < w4.heap.size := lt_of_block c4
  have H4 := Lib.hid (And.intro b4 (And.intro c4 (H3.out.2.trans' k4')))
  clear k4 k4' b4 c4
  go_wp2_with (fail)
  refine (step_at ⟨1, 5, 1, 0, 0, false, 0⟩ ⟨2, 5, 1, 9, 3, false, 0⟩ ⟨1, 0, 0, 9, 3, false, false⟩ 2 _ (by decide)).mono ?_
  rintro e w5 ⟨rfl, k5⟩
  clear p0 p1 p2 p3 p4 p5 p6
  have k5' := ((Kept.refl [] w4).alloc (boxS zeroS)).trans' k5
  have b5 : w5.heap[w3.heap.size]? = some (boxS zeroS) := k5'.at H4.out.1 (by simp)
  have c5 : w5.heap[w1.heap.size]? = some (boxS ⟨1, 5, 1, 0, 0, false, 0⟩) := k5'.at H4.out.2.1 (by simp)
  have d6 : (w5.alloc (boxS ⟨2, 5, 1, 9, 3, false, 0⟩)).heap[w5.heap.size]? = some (boxS ⟨2, 5, 1, 9, 3, false, 0⟩) := heap_new _ _
  obtain ⟨p0, p1, p2, p3, p4, p5, p6⟩ := cells7 c5
  obtain ⟨q0, q1, q2, q3, q4, q5, q6⟩ := cells7 b5
  obtain ⟨r0, r1, r2, r3, r4, r5, r6⟩ := cells7 d6
  have L1' : w1.heap.size < w5.heap.size := lt_of_block c5
  have L3' : w3.heap.size < w5.heap.size := lt_of_block b5
  have H5 := Lib.hid (H4.out.2.2.trans' k5')
  clear k5 k5' b5 c5 d6
  go_wp2_with (fail)
  refine (may_at' ⟨2, 5, 1, 9, 3, false, 0⟩ true _ (by decide)).mono ?_
  rintro e w6 ⟨rfl, rfl⟩
  go_wp2_with (fail)
  refine (may_at' ⟨9, 0, 0, 0, 0, false, 0⟩ false _ (by decide)).mono ?_
  rintro e w6 ⟨rfl, rfl⟩
  go_wp2
  go_ret
  exact ⟨rfl, ((H5.out.alloc _).alloc _).alloc _⟩
end Go.Proofs.YtlchdokpkaikhaaDoor
