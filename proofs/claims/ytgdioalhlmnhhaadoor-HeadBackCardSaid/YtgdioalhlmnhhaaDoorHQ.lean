/- Walks and lemmas on the program of this seat, used by its statements; each theorem bears its own conditions. -/
import Derived.Test.YtgdioalhlmnhhaaDoorHP
import Derived.Test.YtgdioalhlmnhhaaDoorHN
import Derived.Handy
namespace Go.Proofs.YtgdioalhlmnhhaaDoor
open Go.RowKit
set_option linter.unusedVariables false
set_option linter.unusedSimpArgs false
set_option maxHeartbeats 8000000
set_option maxRecDepth 100000
/-! ### fixed -/
def ParseAt (w : World) (h : Hd) (n : Nat) (e : Ending) (w' : World) : Prop := ∃ p1 q1 p2 q2, e = .returned (.tuple #[.agg #[I h.st, .slice p1 h.ns.length q1, .slice p2 h.vs.length q2], I n, I 0]) ∧ OwnT w.heap.size w' (.slice p1 h.ns.length q1) h.ns ∧ OwnT w.heap.size w' (.slice p2 h.vs.length q2) h.vs ∧ Kept [] w w'
theorem parse_at {s : List UInt8} {h : Hd} {n : Nat} {e : Ending} {w w' : World} (hp : ParsePost w (.done h n) e w') : ParseAt w h n e w' := by
  obtain ⟨v1, v2, rfl, o1, o2, k⟩ := hp
  obtain ⟨p1, q1, e1⟩ := o1.form
  obtain ⟨p2, q2, e2⟩ := o2.form
  subst e1 e2
  exact ⟨p1, q1, p2, q2, rfl, o1, o2, k⟩
def ErrAt (w : World) (n : Nat) (e : Ending) (w' : World) : Prop := e = .returned (.tuple #[.agg #[I 0, nilV, nilV], I 0, I n]) ∧ Kept [] w w'
theorem err_at {n : Nat} {e : Ending} {w w' : World} (hp : ParsePost w (.fail n) e w') : ∃ p1 q1 p2 q2, e = .returned (.tuple #[.agg #[I 0, .slice p1 0 q1, .slice p2 0 q2], I 0, I n]) ∧ Kept [] w w' := by
  obtain ⟨v1, v2, rfl, o1, o2, k⟩ := hp
  obtain ⟨p1, q1, e1⟩ := o1.form
  obtain ⟨p2, q2, e2⟩ := o2.form
  subst e1 e2
  exact ⟨p1, q1, p2, q2, rfl, k⟩
def t1L : List UInt8 := [72, 84, 84, 80, 47, 49, 46, 49, 32, 50, 48, 48, 32, 79, 75, 13, 10, 67, 111, 110, 116, 101, 110, 116, 45, 76, 101, 110, 103, 116, 104, 58, 32, 53, 32, 13, 10, 13, 10, 120]
def h1H : Hd := ⟨200, [[99, 111, 110, 116, 101, 110, 116, 45, 108, 101, 110, 103, 116, 104]], [[53]]⟩
theorem fx1 : parseF [72, 84, 84, 80, 47, 49, 46, 49, 32, 50, 48, 48, 32, 79, 75, 13, 10, 67, 111, 110, 116, 101, 110, 116, 45, 76, 101, 110, 103, 116, 104, 58, 32, 53, 32, 13, 10, 13, 10, 120] = .done h1H 39 := by kernel_rfl
theorem fx2 : parseF [72, 84, 84, 80, 47, 49, 46, 49, 32, 57, 57] = .fail 172 := by kernel_rfl
theorem fx3 : parseF [120, 13, 10] = .fail 170 := by kernel_rfl
theorem fr1 : reqF [104] [47, 116] 7 = ([71, 69, 84, 32, 47, 116, 32, 72, 84, 84, 80, 47, 49, 46, 49, 13, 10, 72, 111, 115, 116, 58, 32, 104, 13, 10, 82, 97, 110, 103, 101, 58, 32, 98, 121, 116, 101, 115, 61, 55, 45, 13, 10, 67, 111, 110, 110, 101, 99, 116, 105, 111, 110, 58, 32, 99, 108, 111, 115, 101, 13, 10, 13, 10], 0) := by kernel_rfl
theorem fr2 : repF [104] [47, 116] [97, 98] = ([80, 79, 83, 84, 32, 47, 116, 32, 72, 84, 84, 80, 47, 49, 46, 49, 13, 10, 72, 111, 115, 116, 58, 32, 104, 13, 10, 67, 111, 110, 116, 101, 110, 116, 45, 76, 101, 110, 103, 116, 104, 58, 32, 50, 13, 10, 67, 111, 110, 110, 101, 99, 116, 105, 111, 110, 58, 32, 99, 108, 111, 115, 101, 13, 10, 13, 10, 97, 98], 0) := by kernel_rfl
theorem fr3 : reqF [] [47, 116] 0 = ([], 170) := by kernel_rfl
theorem fg1 : getF h1H.ns h1H.vs [99, 111, 110, 116, 101, 110, 116, 45, 108, 101, 110, 103, 116, 104] = ([53], 1) := by kernel_rfl
theorem fx1_at {e : Ending} {w w' : World} (hp : ParsePost w (.done h1H 39) e w') : ∃ p1 q1 p2 q2, e = .returned (.tuple #[.agg #[I 200, .slice p1 1 q1, .slice p2 1 q2], I 39, I 0]) ∧ OwnT w.heap.size w' (.slice p1 1 q1) h1H.ns ∧ OwnT w.heap.size w' (.slice p2 1 q2) h1H.vs ∧ Kept [] w w' := @parse_at [] _ _ _ _ _ hp
theorem err_at' {n : Nat} {e : Ending} {w w' : World} (m : Int) (hm : (n : Int) = m) (hp : ParsePost w (.fail n) e w') : ∃ p1 q1 p2 q2, e = .returned (.tuple #[.agg #[I 0, .slice p1 0 q1, .slice p2 0 q2], I 0, I m]) ∧ Kept [] w w' := hm ▸ err_at hp
theorem fixed_any (w : World) (hM : ML w) : Calls Tryd.prog 39 #[] w fun e w' => e = .returned (.bool true) ∧ Kept [] w w' := by
  have HM := Lib.hid hM
  clear hM
  go_enter Tryd.func39, Tryd.ntmps39
  go_wp2_with (fail)
  refine (parse_any [72, 84, 84, 80, 47, 49, 46, 49, 32, 50, 48, 48, 32, 79, 75, 13, 10, 67, 111, 110, 116, 101, 110, 116, 45, 76, 101, 110, 103, 116, 104, 58, 32, 53, 32, 13, 10, 13, 10, 120] w (by simp) HM.out _ fx1).mono ?_
  rintro e w1 hp
  obtain ⟨p1, q1, p2, q2, rfl, o1, o2, k1⟩ := fx1_at hp
  obtain ⟨A, hA⟩ : ∃ A, w1.alloc (.cells #[I 200, .slice p1 1 q1, .slice p2 1 q2] HdT) = A := ⟨_, rfl⟩
  have HA : Hid (Blk A w1.heap.size #[I 200, .slice p1 1 q1, .slice p2 1 q2] HdT ∧ OwnT w.heap.size A (.slice p1 1 q1) h1H.ns ∧ OwnT w.heap.size A (.slice p2 1 q2) h1H.vs ∧ Kept [] w A) := Lib.hid (by
    rw [← hA]
    exact ⟨heap_new w1 _, o1.kept ((Kept.refl _ _).alloc _), o2.kept ((Kept.refl _ _).alloc _), k1.alloc _⟩)
  clear o1 o2 k1 hp
  go_wp2_with (fail)
  refine (parse_any [72, 84, 84, 80, 47, 49, 46, 49, 32, 57, 57] A (by simp) (HM.out.kept HA.out.2.2.2) _ fx2).mono ?_
  rintro e w2 hp
  obtain ⟨a1, b1, a2, b2, rfl, k2⟩ := err_at' 172 rfl hp
  have H2 := Lib.hid ((k2.alloc (.cells #[I 0, .slice a1 0 b1, .slice a2 0 b2] HdT)))
  clear k2 hp
  go_wp2_with (fail)
  refine (parse_any [120, 13, 10] _ (by simp) ((HM.out.kept HA.out.2.2.2).kept H2.out) _ fx3).mono ?_
  rintro e w3 hp
  obtain ⟨c1, d1, c2, d2, rfl, k3⟩ := err_at' 170 rfl hp
  have H3 := Lib.hid ((H2.out.trans' k3).alloc (.cells #[I 0, .slice c1 0 d1, .slice c2 0 d2] HdT))
  clear k3 hp
  go_wp2_with (fail)
  refine (request_any [104] [47, 116] 7 _ (by omega) (by omega) (.inl (by omega)) (by simp) (by simp) _ fr1).mono ?_
  rintro e w4 ⟨rfl, k4⟩
  have H4 := Lib.hid (H3.out.trans' k4)
  clear k4
  go_wp2_with (fail)
  refine (report_any [104] [47, 116] [97, 98] w4 (by simp) (.inl (by simp)) (by simp) (by simp) _ fr2).mono ?_
  rintro e w5 ⟨rfl, k5⟩
  have H5 := Lib.hid (H4.out.trans' k5)
  clear k5
  go_wp2_with (fail)
  refine (request_any [] [47, 116] 0 w5 (by omega) (by omega) (.inl (by omega)) (by simp) (by simp) _ fr3).mono ?_
  rintro e w6 ⟨rfl, k6⟩
  have H6 := Lib.hid (H5.out.trans' k6)
  clear k6
  have hb6 : Blk w6 w1.heap.size #[I 200, .slice p1 1 q1, .slice p2 1 q2] HdT := HA.out.1.kept H6.out (by simp)
  obtain ⟨c0, c1, c2⟩ := cells3 hb6
  have HB6 := Lib.hid hb6
  clear hb6
  go_wp2_with (fail)
  refine (get_any 200 _ _ h1H.ns h1H.vs [99, 111, 110, 116, 101, 110, 116, 45, 108, 101, 110, 103, 116, 104] w6 (StrsAt.of_texts ((HA.out.2.1.kept H6.out).texts (by simp [h1H]))) (StrsAt.of_texts ((HA.out.2.2.1.kept H6.out).texts (by simp [h1H])))).mono ?_
  rw [fg1]
  rintro e w7 ⟨rfl, k7⟩
  have H7 := Lib.hid (H6.out.trans' k7)
  have hb7 := HB6.out.kept k7 (by simp)
  obtain ⟨z0, z1, z2⟩ := cells3 hb7
  clear k7 hb7
  go_wp2_with (fail)
  go_ret
  exact ⟨rfl, HA.out.2.2.2.trans' H7.out⟩
end Go.Proofs.YtgdioalhlmnhhaaDoor
