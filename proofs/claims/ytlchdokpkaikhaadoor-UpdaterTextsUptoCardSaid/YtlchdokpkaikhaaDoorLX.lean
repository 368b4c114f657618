/- Walks and lemmas on the program of this seat, used by its statements; each theorem bears its own conditions. -/
import Derived.Test.YtlchdokpkaikhaaDoorUR
import Derived.Handy
import Derived.IntWalk
import Derived.Deep.RegionHeld3
namespace Go.Proofs.YtlchdokpkaikhaaDoor
open Go.RowKit
set_option linter.unusedVariables false
set_option linter.unusedSimpArgs false
/-! ### UpdaterTexts -/
theorem rparse_at (t : List UInt8) (s : St) (n : Int) (w : World) (h : parseF t = (s, n)) (hl : t.length ≤ 1073741824) :
    Calls Tryd.prog 17 #[S t] w fun e w' => e = .returned (.tuple #[VS s, I n]) ∧ Kept [] w w' := by
  have := rparse_any t w hl
  rw [h] at this
  exact this
set_option maxHeartbeats 8000000 in
set_option maxRecDepth 100000 in
theorem textsLaw_any (s : St) (t : List UInt8) (w : World) (hl : t.length ≤ 1048576) (hT : Tabs w) :
    Calls Tryd.prog 4 #[VS s, S t] w fun r w' => r = .returned (.bool true) ∧ Kept [] w w' := by
  have HT := Lib.hid hT
  clear hT
  obtain ⟨a, n, hp⟩ : ∃ a n, printF s = (a, n) := ⟨_, _, rfl⟩
  obtain ⟨u, m, hq⟩ : ∃ u m, parseF t = (u, m) := ⟨_, _, rfl⟩
  have HP := Lib.hid hp
  have HQ := Lib.hid hq
  clear hp hq
  go_enter Tryd.func4, Tryd.ntmps4
  go_wp2_with (fail)
  refine (print_at s a n _ HP.out (HT.out.kept ((Kept.refl _ _).alloc _))).mono ?_
  rintro r w1 ⟨rfl, k1⟩
  have b1 : w1.heap[w.heap.size]? = some (boxS s) := k1.at (heap_new w _) (by simp)
  have H1 := Lib.hid (((Kept.refl [] w).alloc (boxS s)).trans' k1)
  obtain ⟨p0, p1, p2, p3, p4, p5, p6⟩ := cells7 b1
  clear b1 k1
  go_wp2_with (fail)
  refine (rprint_at s a n _ HP.out).mono ?_
  rintro r w2 ⟨rfl, k2⟩
  have H2 := Lib.hid (H1.out.trans' k2)
  clear k2 p0 p1 p2 p3 p4 p5 p6
  go_wp2_with (fail)
  refine (parse_at t u m _ HQ.out (by omega) (HT.out.kept H2.out)).mono ?_
  rintro r w3 ⟨rfl, k3⟩
  have H3 := Lib.hid (H2.out.trans' k3)
  clear k3
  go_wp2_with (fail)
  refine (rparse_at t u m _ HQ.out (by omega)).mono ?_
  rintro r w4 ⟨rfl, k4⟩
  have b4 : w4.heap[w3.heap.size]? = some (boxS u) := k4.at (heap_new w3 _) (by simp)
  have H4 := Lib.hid (H3.out.trans' (((Kept.refl [] w3).alloc (boxS u)).trans' k4))
  have b5 := ((Kept.refl [] w4).alloc (boxS u)).at b4 (by simp)
  have HB := Lib.hid (And.intro b5 (heap_new w4 (boxS u)))
  clear k4 b4 b5
  go_wp2_with (fail)
  refine (fixed_any _ (HT.out.kept (H4.out.alloc _))).mono ?_
  rintro r w5 ⟨rfl, k5⟩
  obtain ⟨p0, p1, p2, p3, p4, p5, p6⟩ := cells7 (k5.at HB.out.1 (by simp))
  obtain ⟨q0, q1, q2, q3, q4, q5, q6⟩ := cells7 (k5.at HB.out.2 (by simp))
  have H5 := Lib.hid ((H4.out.alloc _).trans' k5)
  clear k5
  go_wp2
  go_ret
  exact ⟨rfl, H5.out⟩
end Go.Proofs.YtlchdokpkaikhaaDoor
