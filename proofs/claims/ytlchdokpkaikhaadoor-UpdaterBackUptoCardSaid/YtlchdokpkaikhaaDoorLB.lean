/- Walks and lemmas on the program of this seat, used by its statements; each theorem bears its own conditions. -/
import Derived.Test.YtlchdokpkaikhaaDoorLS
import Derived.Handy
import Derived.IntWalk
import Derived.Deep.RegionHeld3
namespace Go.Proofs.YtlchdokpkaikhaaDoor
open Go.RowKit
set_option linter.unusedVariables false
set_option linter.unusedSimpArgs false
/-! ### UpdaterBack -/
theorem back_parse (t : List UInt8) : (∃ u, parseF t = (u, 0) ∧ printF u = (t, 0)) ∨ parseF t = (zeroS, 250) := by
  by_cases h : ∃ s, MayP s ∧ printL s = t
  · obtain ⟨s, hs, rfl⟩ := h
    exact .inl ⟨s, parseF_yes hs, by unfold printF; rw [if_pos hs]⟩
  · exact .inr (parseF_no h)
/-- Behind the first half: t is parsed. -/
def BackRest (w0 : World) (e : Ending) (w' : World) : Prop := e = .returned (.bool true) ∧ Kept [] w0 w'
set_option maxHeartbeats 8000000 in
set_option maxRecDepth 100000 in
theorem backLaw_any (s : St) (t : List UInt8) (w : World) (hl : t.length ≤ 1048576) (hT : Tabs w) :
    Calls Tryd.prog 5 #[VS s, S t] w fun r w' => r = .returned (.bool true) ∧ Kept [] w w' := by
  have HT := Lib.hid hT
  clear hT
  by_cases hM : MayP s
  · obtain ⟨a, ha⟩ : ∃ a, printL s = a := ⟨_, rfl⟩
    have hal : a.length = 59 := by rw [← ha]; exact printL_len s
    have HP := Lib.hid (show printF s = (a, 0) by unfold printF; rw [if_pos hM, ha])
    have HQ := Lib.hid (show parseF a = (s, 0) by rw [← ha]; exact parseF_yes hM)
    have HM := Lib.hid (mayB_t hM)
    have ha2 : ((a.length : Int) != 59) = false := by rw [hal]; rfl
    have ha3 : (a.length : Int) ≤ 59 := by omega
    have HA := Lib.hid hal
    clear hM ha hal
    go_enter Tryd.func5, Tryd.ntmps5
    go_wp2_with (fail)
    refine (print_at s a 0 _ HP.out (HT.out.kept ((Kept.refl _ _).alloc _))).mono ?_
    rintro r w1 ⟨rfl, k1⟩
    have b1 : w1.heap[w.heap.size]? = some (boxS s) := k1.at (heap_new w _) (by simp)
    have H1 := Lib.hid (And.intro b1 (((Kept.refl [] w).alloc (boxS s)).trans' k1))
    obtain ⟨p0, p1, p2, p3, p4, p5, p6⟩ := cells7 b1
    clear b1 k1
    go_wp2_with (fail)
    refine (may_at' s true _ HM.out).mono ?_
    rintro r w2 ⟨rfl, rfl⟩
    clear p0 p1 p2 p3 p4 p5 p6
    go_wp2_with (fail)
    refine (parse_at a s 0 _ HQ.out (by have := HA.out; omega) (HT.out.kept (H1.out.2.alloc _))).mono ?_
    rintro r w3 ⟨rfl, k3⟩
    have b3 : w3.heap[w.heap.size]? = some (boxS s) := k3.at (((Kept.refl [] w1).alloc _).at H1.out.1 (by simp)) (by simp)
    obtain ⟨p0, p1, p2, p3, p4, p5, p6⟩ := cells7 b3
    have L1 : w.heap.size < w3.heap.size := lt_of_block b3
    have H3 := Lib.hid ((H1.out.2.alloc (boxS s)).trans' k3)
    clear b3 k3
    go_wp2_with (fail)
    rcases back_parse t with ⟨u, hu1, hu2⟩ | hu
    · have HU := Lib.hid (And.intro hu1 hu2)
      clear hu1 hu2
      refine (parse_at t u 0 _ HU.out.1 (by omega) (HT.out.kept (H3.out.alloc _))).mono ?_
      rintro r w4 ⟨rfl, k4⟩
      have H4 := Lib.hid ((H3.out.alloc (boxS s)).trans' k4)
      clear k4 p0 p1 p2 p3 p4 p5 p6 L1
      go_wp2_with (fail)
      refine (print_at u t 0 _ HU.out.2 (HT.out.kept (H4.out.alloc _))).mono ?_
      rintro r w5 ⟨rfl, k5⟩
      go_wp2_with (fail)
      refine (fixed_any _ (HT.out.kept ((H4.out.alloc _).trans' k5))).mono ?_
      rintro r w6 ⟨rfl, k6⟩
      go_wp2
      go_ret
      exact ⟨rfl, ((H4.out.alloc _).trans' k5).trans' k6⟩
    · have HU := Lib.hid hu
      clear hu
      refine (parse_at t zeroS 250 _ HU.out (by omega) (HT.out.kept (H3.out.alloc _))).mono ?_
      rintro r w4 ⟨rfl, k4⟩
      have H4 := Lib.hid ((H3.out.alloc (boxS s)).trans' k4)
      clear k4 p0 p1 p2 p3 p4 p5 p6 L1
      unfold zeroS
      go_wp2_with (fail)
      refine (fixed_any _ (HT.out.kept (H4.out.alloc _))).mono ?_
      rintro r w6 ⟨rfl, k6⟩
      go_wp2
      go_ret
      exact ⟨rfl, (H4.out.alloc _).trans' k6⟩
  · have HP := Lib.hid (show printF s = ([], 250) by unfold printF; rw [if_neg hM])
    have HM := Lib.hid (mayB_f hM)
    clear hM
    go_enter Tryd.func5, Tryd.ntmps5
    go_wp2_with (fail)
    refine (print_at s [] 250 _ HP.out (HT.out.kept ((Kept.refl _ _).alloc _))).mono ?_
    rintro r w1 ⟨rfl, k1⟩
    have b1 : w1.heap[w.heap.size]? = some (boxS s) := k1.at (heap_new w _) (by simp)
    have H1 := Lib.hid (And.intro b1 (((Kept.refl [] w).alloc (boxS s)).trans' k1))
    obtain ⟨p0, p1, p2, p3, p4, p5, p6⟩ := cells7 b1
    clear b1 k1
    go_wp2_with (fail)
    refine (may_at' s false _ HM.out).mono ?_
    rintro r w2 ⟨rfl, rfl⟩
    clear p0 p1 p2 p3 p4 p5 p6
    go_wp2_with (fail)
    rcases back_parse t with ⟨u, hu1, hu2⟩ | hu
    · have HU := Lib.hid (And.intro hu1 hu2)
      clear hu1 hu2
      refine (parse_at t u 0 _ HU.out.1 (by omega) (HT.out.kept (H1.out.2.alloc _))).mono ?_
      rintro r w4 ⟨rfl, k4⟩
      have H4 := Lib.hid ((H1.out.2.alloc (boxS s)).trans' k4)
      clear k4
      go_wp2_with (fail)
      refine (print_at u t 0 _ HU.out.2 (HT.out.kept (H4.out.alloc _))).mono ?_
      rintro r w5 ⟨rfl, k5⟩
      go_wp2_with (fail)
      refine (fixed_any _ (HT.out.kept ((H4.out.alloc _).trans' k5))).mono ?_
      rintro r w6 ⟨rfl, k6⟩
      go_wp2
      go_ret
      exact ⟨rfl, ((H4.out.alloc _).trans' k5).trans' k6⟩
    · have HU := Lib.hid hu
      clear hu
      refine (parse_at t zeroS 250 _ HU.out (by omega) (HT.out.kept (H1.out.2.alloc _))).mono ?_
      rintro r w4 ⟨rfl, k4⟩
      have H4 := Lib.hid ((H1.out.2.alloc (boxS s)).trans' k4)
      clear k4
      unfold zeroS
      go_wp2_with (fail)
      refine (fixed_any _ (HT.out.kept (H4.out.alloc _))).mono ?_
      rintro r w6 ⟨rfl, k6⟩
      go_wp2
      go_ret
      exact ⟨rfl, (H4.out.alloc _).trans' k6⟩
end Go.Proofs.YtlchdokpkaikhaaDoor
