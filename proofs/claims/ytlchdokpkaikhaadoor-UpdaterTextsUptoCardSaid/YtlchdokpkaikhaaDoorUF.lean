/- Walks and lemmas on the program of this seat, used by its statements; each theorem bears its own conditions. -/
import Derived.Test.YtlchdokpkaikhaaDoorUE
import Derived.Handy
namespace Go.Proofs.YtlchdokpkaikhaaDoor
open Go.RowKit
set_option linter.unusedVariables false
set_option linter.unusedSimpArgs false
set_option maxHeartbeats 4000000 in
set_option maxRecDepth 100000 in
theorem rstep_2_3 (s : St) (e : Ev) (w : World) (h : MayP s) (h0 : s.ph = 2) (hk : e.ki = 3) :
    Calls Tryd.prog 10 #[VS s, VE e] w fun r w' => r = .returned (VT (stepF s e)) ∧ Kept [] w w' := by
  have h23 := Lib.hid (Or.inl h0 : s.ph = 2 ∨ s.ph = 3)
  have HM := Lib.hid (mayB_t h)
  have HE := Lib.hid (stepF_23 (e := e) h h23.out)
  have HZ := Lib.hid h.2
  clear h
  have Xh0 := Lib.hid h0
  clear h0
  have Xhk := Lib.hid hk
  clear hk
  go_enter Tryd.func10, Tryd.ntmps10
  go_wp2_with (fail)
  refine (rmay_at s true _ HM.out).mono ?_
  rintro r w1 ⟨rfl, rfl⟩
  have h0 := Xh0.out
  have hk := Xhk.out
  go_wp2
  all_goals
    go_returns
    refine ⟨?_, by repeat (first | exact Kept.refl _ _ | refine Kept.alloc ?_ _ | refine Kept.drew ?_)⟩
    try simp only [beq_iff_eq, beq_eq_false_iff_ne, ne_eq, Bool.not_eq_true] at *
    rw [HE.out]
    unfold bootF overF
    (repeat' split) <;> first
      | rfl
      | (exfalso; omega)
      | (simp_all; done)
      | (have HZ' := HZ.out; simp_all; done)
      | skip
set_option maxHeartbeats 4000000 in
set_option maxRecDepth 100000 in
theorem rstep_2_x (s : St) (e : Ev) (w : World) (h : MayP s) (h0 : s.ph = 2) (hk3 : (e.ki == 3) = false) :
    Calls Tryd.prog 10 #[VS s, VE e] w fun r w' => r = .returned (VT (stepF s e)) ∧ Kept [] w w' := by
  have h23 := Lib.hid (Or.inl h0 : s.ph = 2 ∨ s.ph = 3)
  have HM := Lib.hid (mayB_t h)
  have HE := Lib.hid (stepF_23 (e := e) h h23.out)
  have HZ := Lib.hid h.2
  clear h
  have Xh0 := Lib.hid h0
  clear h0
  have Xhk3 := Lib.hid hk3
  clear hk3
  go_enter Tryd.func10, Tryd.ntmps10
  go_wp2_with (fail)
  refine (rmay_at s true _ HM.out).mono ?_
  rintro r w1 ⟨rfl, rfl⟩
  have h0 := Xh0.out
  have hk3 := Xhk3.out
  go_wp2
  all_goals
    go_returns
    refine ⟨?_, by repeat (first | exact Kept.refl _ _ | refine Kept.alloc ?_ _ | refine Kept.drew ?_)⟩
    try simp only [beq_iff_eq, beq_eq_false_iff_ne, ne_eq, Bool.not_eq_true] at *
    rw [HE.out]
    unfold bootF overF
    (repeat' split) <;> first
      | rfl
      | (exfalso; omega)
      | (simp_all; done)
      | (have HZ' := HZ.out; simp_all; done)
      | skip
theorem rstep_2 (s : St) (e : Ev) (w : World) (h : MayP s) (h0 : s.ph = 2) :
    Calls Tryd.prog 10 #[VS s, VE e] w fun r w' => r = .returned (VT (stepF s e)) ∧ Kept [] w w' := by
  by_cases hk3 : e.ki = 3
  · exact rstep_2_3 s e w h h0 hk3
  exact rstep_2_x s e w h h0 (by simpa using hk3)
set_option maxHeartbeats 4000000 in
set_option maxRecDepth 100000 in
theorem rstep_3_3 (s : St) (e : Ev) (w : World) (h : MayP s) (h0 : s.ph = 3) (hk : e.ki = 3) :
    Calls Tryd.prog 10 #[VS s, VE e] w fun r w' => r = .returned (VT (stepF s e)) ∧ Kept [] w w' := by
  have h23 := Lib.hid (Or.inr h0 : s.ph = 2 ∨ s.ph = 3)
  have HM := Lib.hid (mayB_t h)
  have HE := Lib.hid (stepF_23 (e := e) h h23.out)
  have HZ := Lib.hid h.2
  clear h
  have Xh0 := Lib.hid h0
  clear h0
  have Xhk := Lib.hid hk
  clear hk
  go_enter Tryd.func10, Tryd.ntmps10
  go_wp2_with (fail)
  refine (rmay_at s true _ HM.out).mono ?_
  rintro r w1 ⟨rfl, rfl⟩
  have h0 := Xh0.out
  have hk := Xhk.out
  go_wp2
  all_goals
    go_returns
    refine ⟨?_, by repeat (first | exact Kept.refl _ _ | refine Kept.alloc ?_ _ | refine Kept.drew ?_)⟩
    try simp only [beq_iff_eq, beq_eq_false_iff_ne, ne_eq, Bool.not_eq_true] at *
    rw [HE.out]
    unfold bootF overF
    (repeat' split) <;> first
      | rfl
      | (exfalso; omega)
      | (simp_all; done)
      | (have HZ' := HZ.out; simp_all; done)
      | skip
set_option maxHeartbeats 4000000 in
set_option maxRecDepth 100000 in
theorem rstep_3_4 (s : St) (e : Ev) (w : World) (h : MayP s) (h0 : s.ph = 3) (hk : e.ki = 4) :
    Calls Tryd.prog 10 #[VS s, VE e] w fun r w' => r = .returned (VT (stepF s e)) ∧ Kept [] w w' := by
  have h23 := Lib.hid (Or.inr h0 : s.ph = 2 ∨ s.ph = 3)
  have HM := Lib.hid (mayB_t h)
  have HE := Lib.hid (stepF_23 (e := e) h h23.out)
  have HZ := Lib.hid h.2
  clear h
  have Xh0 := Lib.hid h0
  clear h0
  have Xhk := Lib.hid hk
  clear hk
  go_enter Tryd.func10, Tryd.ntmps10
  go_wp2_with (fail)
  refine (rmay_at s true _ HM.out).mono ?_
  rintro r w1 ⟨rfl, rfl⟩
  have h0 := Xh0.out
  have hk := Xhk.out
  go_wp2
  all_goals
    go_returns
    refine ⟨?_, by repeat (first | exact Kept.refl _ _ | refine Kept.alloc ?_ _ | refine Kept.drew ?_)⟩
    try simp only [beq_iff_eq, beq_eq_false_iff_ne, ne_eq, Bool.not_eq_true] at *
    rw [HE.out]
    unfold bootF overF
    (repeat' split) <;> first
      | rfl
      | (exfalso; omega)
      | (simp_all; done)
      | (have HZ' := HZ.out; simp_all; done)
      | skip
set_option maxHeartbeats 4000000 in
set_option maxRecDepth 100000 in
theorem rstep_3_x (s : St) (e : Ev) (w : World) (h : MayP s) (h0 : s.ph = 3) (hk3 : (e.ki == 3) = false) (hk4 : (e.ki == 4) = false) :
    Calls Tryd.prog 10 #[VS s, VE e] w fun r w' => r = .returned (VT (stepF s e)) ∧ Kept [] w w' := by
  have h23 := Lib.hid (Or.inr h0 : s.ph = 2 ∨ s.ph = 3)
  have HM := Lib.hid (mayB_t h)
  have HE := Lib.hid (stepF_23 (e := e) h h23.out)
  have HZ := Lib.hid h.2
  clear h
  have Xh0 := Lib.hid h0
  clear h0
  have Xhk3 := Lib.hid hk3
  clear hk3
  have Xhk4 := Lib.hid hk4
  clear hk4
  go_enter Tryd.func10, Tryd.ntmps10
  go_wp2_with (fail)
  refine (rmay_at s true _ HM.out).mono ?_
  rintro r w1 ⟨rfl, rfl⟩
  have h0 := Xh0.out
  have hk3 := Xhk3.out
  have hk4 := Xhk4.out
  go_wp2
  all_goals
    go_returns
    refine ⟨?_, by repeat (first | exact Kept.refl _ _ | refine Kept.alloc ?_ _ | refine Kept.drew ?_)⟩
    try simp only [beq_iff_eq, beq_eq_false_iff_ne, ne_eq, Bool.not_eq_true] at *
    rw [HE.out]
    unfold bootF overF
    (repeat' split) <;> first
      | rfl
      | (exfalso; omega)
      | (simp_all; done)
      | (have HZ' := HZ.out; simp_all; done)
      | skip
theorem rstep_3 (s : St) (e : Ev) (w : World) (h : MayP s) (h0 : s.ph = 3) :
    Calls Tryd.prog 10 #[VS s, VE e] w fun r w' => r = .returned (VT (stepF s e)) ∧ Kept [] w w' := by
  by_cases hk3 : e.ki = 3
  · exact rstep_3_3 s e w h h0 hk3
  by_cases hk4 : e.ki = 4
  · exact rstep_3_4 s e w h h0 hk4
  exact rstep_3_x s e w h h0 (by simpa using hk3) (by simpa using hk4)
theorem rstep_any (s : St) (e : Ev) (w : World) :
    Calls Tryd.prog 10 #[VS s, VE e] w fun r w' => r = .returned (VT (stepF s e)) ∧ Kept [] w w' := by
  by_cases h : MayP s
  · rcases may_ph h with h0 | h0 | (h0 | h0) | h0
    · exact rstep_0 s e w h h0
    · exact rstep_1 s e w h h0
    · exact rstep_2 s e w h h0
    · exact rstep_3 s e w h h0
    · exact rstep_4 s e w h h0
  · exact rstep_no s e w h
end Go.Proofs.YtlchdokpkaikhaaDoor
