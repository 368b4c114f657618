/- Walks and lemmas on the program of this seat, used by its statements; each theorem bears its own conditions. -/
import Derived.Test.YtlchdokpkaikhaaDoorUB
import Derived.Test.YtlchdokpkaikhaaDoorUD
import Derived.Handy
namespace Go.Proofs.YtlchdokpkaikhaaDoor
open Go.RowKit
set_option linter.unusedVariables false
set_option linter.unusedSimpArgs false
theorem rmay_at (s : St) (b : Bool) (w : World) (h : mayB s = b) :
    Calls Tryd.prog 13 #[VS s] w fun e w' => e = .returned (.bool b) ∧ w' = w.alloc (boxS s) := h ▸ rmay_any s w
set_option maxHeartbeats 4000000 in
set_option maxRecDepth 100000 in
theorem rstep_no (s : St) (e : Ev) (w : World) (h : ¬ MayP s) :
    Calls Tryd.prog 10 #[VS s, VE e] w fun r w' => r = .returned (VT (stepF s e)) ∧ Kept [] w w' := by
  have HM := Lib.hid (mayB_f h)
  have HE := Lib.hid (stepF_not (e := e) h)
  have HZ := Lib.hid trivial
  clear h
  go_enter Tryd.func10, Tryd.ntmps10
  go_wp2_with (fail)
  refine (rmay_at s false _ HM.out).mono ?_
  rintro r w1 ⟨rfl, rfl⟩
  go_wp2
  all_goals
    go_returns
    refine ⟨?_, by repeat (first | exact Kept.refl _ _ | refine Kept.alloc ?_ _ | refine Kept.drew ?_)⟩
    try simp only [beq_iff_eq, beq_eq_false_iff_ne, ne_eq, Bool.not_eq_true] at *
    rw [HE.out]
set_option maxHeartbeats 4000000 in
set_option maxRecDepth 100000 in
theorem rstep_0_0 (s : St) (e : Ev) (w : World) (h : MayP s) (h0 : s.ph = 0) (hk : e.ki = 0) :
    Calls Tryd.prog 10 #[VS s, VE e] w fun r w' => r = .returned (VT (stepF s e)) ∧ Kept [] w w' := by
  have HM := Lib.hid (mayB_t h)
  have HE := Lib.hid (stepF_0 (e := e) h h0)
  have HZ := Lib.hid h.2
  clear h
  have Xh0 := Lib.hid h0
  clear h0
  have Xhk := Lib.hid hk
  clear hk
  go_enter Tryd.func10, Tryd.ntmps10
  go_wp2_with (fail)
  refine (rmay_at s true _ HM.out).mono ?_
  rintro r w1 ⟨rfl, rfl⟩
  have h0 := Xh0.out
  have hk := Xhk.out
  go_wp2
  all_goals
    go_returns
    refine ⟨?_, by repeat (first | exact Kept.refl _ _ | refine Kept.alloc ?_ _ | refine Kept.drew ?_)⟩
    try simp only [beq_iff_eq, beq_eq_false_iff_ne, ne_eq, Bool.not_eq_true] at *
    rw [HE.out]
    (repeat' split) <;> first
      | rfl
      | (exfalso; omega)
      | (simp_all; done)
      | (have HZ' := HZ.out; simp_all; done)
      | skip
set_option maxHeartbeats 4000000 in
set_option maxRecDepth 100000 in
theorem rstep_0_x (s : St) (e : Ev) (w : World) (h : MayP s) (h0 : s.ph = 0) (hk0 : (e.ki == 0) = false) :
    Calls Tryd.prog 10 #[VS s, VE e] w fun r w' => r = .returned (VT (stepF s e)) ∧ Kept [] w w' := by
  have HM := Lib.hid (mayB_t h)
  have HE := Lib.hid (stepF_0 (e := e) h h0)
  have HZ := Lib.hid h.2
  clear h
  have Xh0 := Lib.hid h0
  clear h0
  have Xhk0 := Lib.hid hk0
  clear hk0
  go_enter Tryd.func10, Tryd.ntmps10
  go_wp2_with (fail)
  refine (rmay_at s true _ HM.out).mono ?_
  rintro r w1 ⟨rfl, rfl⟩
  have h0 := Xh0.out
  have hk0 := Xhk0.out
  go_wp2
  all_goals
    go_returns
    refine ⟨?_, by repeat (first | exact Kept.refl _ _ | refine Kept.alloc ?_ _ | refine Kept.drew ?_)⟩
    try simp only [beq_iff_eq, beq_eq_false_iff_ne, ne_eq, Bool.not_eq_true] at *
    rw [HE.out]
    (repeat' split) <;> first
      | rfl
      | (exfalso; omega)
      | (simp_all; done)
      | (have HZ' := HZ.out; simp_all; done)
      | skip
theorem rstep_0 (s : St) (e : Ev) (w : World) (h : MayP s) (h0 : s.ph = 0) :
    Calls Tryd.prog 10 #[VS s, VE e] w fun r w' => r = .returned (VT (stepF s e)) ∧ Kept [] w w' := by
  by_cases hk0 : e.ki = 0
  · exact rstep_0_0 s e w h h0 hk0
  exact rstep_0_x s e w h h0 (by simpa using hk0)
set_option maxHeartbeats 4000000 in
set_option maxRecDepth 100000 in
theorem rstep_1_1 (s : St) (e : Ev) (w : World) (h : MayP s) (h0 : s.ph = 1) (hk : e.ki = 1) :
    Calls Tryd.prog 10 #[VS s, VE e] w fun r w' => r = .returned (VT (stepF s e)) ∧ Kept [] w w' := by
  have HM := Lib.hid (mayB_t h)
  have HE := Lib.hid (stepF_1 (e := e) h h0)
  have HZ := Lib.hid h.2
  clear h
  have Xh0 := Lib.hid h0
  clear h0
  have Xhk := Lib.hid hk
  clear hk
  go_enter Tryd.func10, Tryd.ntmps10
  go_wp2_with (fail)
  refine (rmay_at s true _ HM.out).mono ?_
  rintro r w1 ⟨rfl, rfl⟩
  have h0 := Xh0.out
  have hk := Xhk.out
  go_wp2
  all_goals
    go_returns
    refine ⟨?_, by repeat (first | exact Kept.refl _ _ | refine Kept.alloc ?_ _ | refine Kept.drew ?_)⟩
    try simp only [beq_iff_eq, beq_eq_false_iff_ne, ne_eq, Bool.not_eq_true] at *
    rw [HE.out]
    unfold loadF overF
    (repeat' split) <;> first
      | rfl
      | (exfalso; omega)
      | (simp_all; done)
      | (have HZ' := HZ.out; simp_all; done)
      | skip
set_option maxHeartbeats 4000000 in
set_option maxRecDepth 100000 in
theorem rstep_1_2 (s : St) (e : Ev) (w : World) (h : MayP s) (h0 : s.ph = 1) (hk : e.ki = 2) :
    Calls Tryd.prog 10 #[VS s, VE e] w fun r w' => r = .returned (VT (stepF s e)) ∧ Kept [] w w' := by
  have HM := Lib.hid (mayB_t h)
  have HE := Lib.hid (stepF_1 (e := e) h h0)
  have HZ := Lib.hid h.2
  clear h
  have Xh0 := Lib.hid h0
  clear h0
  have Xhk := Lib.hid hk
  clear hk
  go_enter Tryd.func10, Tryd.ntmps10
  go_wp2_with (fail)
  refine (rmay_at s true _ HM.out).mono ?_
  rintro r w1 ⟨rfl, rfl⟩
  have h0 := Xh0.out
  have hk := Xhk.out
  go_wp2
  all_goals
    go_returns
    refine ⟨?_, by repeat (first | exact Kept.refl _ _ | refine Kept.alloc ?_ _ | refine Kept.drew ?_)⟩
    try simp only [beq_iff_eq, beq_eq_false_iff_ne, ne_eq, Bool.not_eq_true] at *
    rw [HE.out]
    unfold loadF overF
    (repeat' split) <;> first
      | rfl
      | (exfalso; omega)
      | (simp_all; done)
      | (have HZ' := HZ.out; simp_all; done)
      | skip
set_option maxHeartbeats 4000000 in
set_option maxRecDepth 100000 in
theorem rstep_1_3 (s : St) (e : Ev) (w : World) (h : MayP s) (h0 : s.ph = 1) (hk : e.ki = 3) :
    Calls Tryd.prog 10 #[VS s, VE e] w fun r w' => r = .returned (VT (stepF s e)) ∧ Kept [] w w' := by
  have HM := Lib.hid (mayB_t h)
  have HE := Lib.hid (stepF_1 (e := e) h h0)
  have HZ := Lib.hid h.2
  clear h
  have Xh0 := Lib.hid h0
  clear h0
  have Xhk := Lib.hid hk
  clear hk
  go_enter Tryd.func10, Tryd.ntmps10
  go_wp2_with (fail)
  refine (rmay_at s true _ HM.out).mono ?_
  rintro r w1 ⟨rfl, rfl⟩
  have h0 := Xh0.out
  have hk := Xhk.out
  go_wp2
  all_goals
    go_returns
    refine ⟨?_, by repeat (first | exact Kept.refl _ _ | refine Kept.alloc ?_ _ | refine Kept.drew ?_)⟩
    try simp only [beq_iff_eq, beq_eq_false_iff_ne, ne_eq, Bool.not_eq_true] at *
    rw [HE.out]
    unfold loadF overF
    (repeat' split) <;> first
      | rfl
      | (exfalso; omega)
      | (simp_all; done)
      | (have HZ' := HZ.out; simp_all; done)
      | skip
set_option maxHeartbeats 4000000 in
set_option maxRecDepth 100000 in
theorem rstep_1_x (s : St) (e : Ev) (w : World) (h : MayP s) (h0 : s.ph = 1) (hk1 : (e.ki == 1) = false) (hk2 : (e.ki == 2) = false) (hk3 : (e.ki == 3) = false) :
    Calls Tryd.prog 10 #[VS s, VE e] w fun r w' => r = .returned (VT (stepF s e)) ∧ Kept [] w w' := by
  have HM := Lib.hid (mayB_t h)
  have HE := Lib.hid (stepF_1 (e := e) h h0)
  have HZ := Lib.hid h.2
  clear h
  have Xh0 := Lib.hid h0
  clear h0
  have Xhk1 := Lib.hid hk1
  clear hk1
  have Xhk2 := Lib.hid hk2
  clear hk2
  have Xhk3 := Lib.hid hk3
  clear hk3
  go_enter Tryd.func10, Tryd.ntmps10
  go_wp2_with (fail)
  refine (rmay_at s true _ HM.out).mono ?_
  rintro r w1 ⟨rfl, rfl⟩
  have h0 := Xh0.out
  have hk1 := Xhk1.out
  have hk2 := Xhk2.out
  have hk3 := Xhk3.out
  go_wp2
  all_goals
    go_returns
    refine ⟨?_, by repeat (first | exact Kept.refl _ _ | refine Kept.alloc ?_ _ | refine Kept.drew ?_)⟩
    try simp only [beq_iff_eq, beq_eq_false_iff_ne, ne_eq, Bool.not_eq_true] at *
    rw [HE.out]
    unfold loadF overF
    (repeat' split) <;> first
      | rfl
      | (exfalso; omega)
      | (simp_all; done)
      | (have HZ' := HZ.out; simp_all; done)
      | skip
theorem rstep_1 (s : St) (e : Ev) (w : World) (h : MayP s) (h0 : s.ph = 1) :
    Calls Tryd.prog 10 #[VS s, VE e] w fun r w' => r = .returned (VT (stepF s e)) ∧ Kept [] w w' := by
  by_cases hk1 : e.ki = 1
  · exact rstep_1_1 s e w h h0 hk1
  by_cases hk2 : e.ki = 2
  · exact rstep_1_2 s e w h h0 hk2
  by_cases hk3 : e.ki = 3
  · exact rstep_1_3 s e w h h0 hk3
  exact rstep_1_x s e w h h0 (by simpa using hk1) (by simpa using hk2) (by simpa using hk3)
set_option maxHeartbeats 4000000 in
set_option maxRecDepth 100000 in
theorem rstep_4_5 (s : St) (e : Ev) (w : World) (h : MayP s) (h0 : s.ph = 4) (hk : e.ki = 5) :
    Calls Tryd.prog 10 #[VS s, VE e] w fun r w' => r = .returned (VT (stepF s e)) ∧ Kept [] w w' := by
  have HM := Lib.hid (mayB_t h)
  have HE := Lib.hid (stepF_4 (e := e) h h0)
  have HZ := Lib.hid h.2
  clear h
  have Xh0 := Lib.hid h0
  clear h0
  have Xhk := Lib.hid hk
  clear hk
  go_enter Tryd.func10, Tryd.ntmps10
  go_wp2_with (fail)
  refine (rmay_at s true _ HM.out).mono ?_
  rintro r w1 ⟨rfl, rfl⟩
  have h0 := Xh0.out
  have hk := Xhk.out
  go_wp2
  all_goals
    go_returns
    refine ⟨?_, by repeat (first | exact Kept.refl _ _ | refine Kept.alloc ?_ _ | refine Kept.drew ?_)⟩
    try simp only [beq_iff_eq, beq_eq_false_iff_ne, ne_eq, Bool.not_eq_true] at *
    rw [HE.out]
    (repeat' split) <;> first
      | rfl
      | (exfalso; omega)
      | (simp_all; done)
      | (have HZ' := HZ.out; simp_all; done)
      | skip
set_option maxHeartbeats 4000000 in
set_option maxRecDepth 100000 in
theorem rstep_4_3 (s : St) (e : Ev) (w : World) (h : MayP s) (h0 : s.ph = 4) (hk : e.ki = 3) :
    Calls Tryd.prog 10 #[VS s, VE e] w fun r w' => r = .returned (VT (stepF s e)) ∧ Kept [] w w' := by
  have HM := Lib.hid (mayB_t h)
  have HE := Lib.hid (stepF_4 (e := e) h h0)
  have HZ := Lib.hid h.2
  clear h
  have Xh0 := Lib.hid h0
  clear h0
  have Xhk := Lib.hid hk
  clear hk
  go_enter Tryd.func10, Tryd.ntmps10
  go_wp2_with (fail)
  refine (rmay_at s true _ HM.out).mono ?_
  rintro r w1 ⟨rfl, rfl⟩
  have h0 := Xh0.out
  have hk := Xhk.out
  go_wp2
  all_goals
    go_returns
    refine ⟨?_, by repeat (first | exact Kept.refl _ _ | refine Kept.alloc ?_ _ | refine Kept.drew ?_)⟩
    try simp only [beq_iff_eq, beq_eq_false_iff_ne, ne_eq, Bool.not_eq_true] at *
    rw [HE.out]
    (repeat' split) <;> first
      | rfl
      | (exfalso; omega)
      | (simp_all; done)
      | (have HZ' := HZ.out; simp_all; done)
      | skip
set_option maxHeartbeats 4000000 in
set_option maxRecDepth 100000 in
theorem rstep_4_x (s : St) (e : Ev) (w : World) (h : MayP s) (h0 : s.ph = 4) (hk5 : (e.ki == 5) = false) (hk3 : (e.ki == 3) = false) :
    Calls Tryd.prog 10 #[VS s, VE e] w fun r w' => r = .returned (VT (stepF s e)) ∧ Kept [] w w' := by
  have HM := Lib.hid (mayB_t h)
  have HE := Lib.hid (stepF_4 (e := e) h h0)
  have HZ := Lib.hid h.2
  clear h
  have Xh0 := Lib.hid h0
  clear h0
  have Xhk5 := Lib.hid hk5
  clear hk5
  have Xhk3 := Lib.hid hk3
  clear hk3
  go_enter Tryd.func10, Tryd.ntmps10
  go_wp2_with (fail)
  refine (rmay_at s true _ HM.out).mono ?_
  rintro r w1 ⟨rfl, rfl⟩
  have h0 := Xh0.out
  have hk5 := Xhk5.out
  have hk3 := Xhk3.out
  go_wp2
  all_goals
    go_returns
    refine ⟨?_, by repeat (first | exact Kept.refl _ _ | refine Kept.alloc ?_ _ | refine Kept.drew ?_)⟩
    try simp only [beq_iff_eq, beq_eq_false_iff_ne, ne_eq, Bool.not_eq_true] at *
    rw [HE.out]
    (repeat' split) <;> first
      | rfl
      | (exfalso; omega)
      | (simp_all; done)
      | (have HZ' := HZ.out; simp_all; done)
      | skip
theorem rstep_4 (s : St) (e : Ev) (w : World) (h : MayP s) (h0 : s.ph = 4) :
    Calls Tryd.prog 10 #[VS s, VE e] w fun r w' => r = .returned (VT (stepF s e)) ∧ Kept [] w w' := by
  by_cases hk5 : e.ki = 5
  · exact rstep_4_5 s e w h h0 hk5
  by_cases hk3 : e.ki = 3
  · exact rstep_4_3 s e w h h0 hk3
  exact rstep_4_x s e w h h0 (by simpa using hk5) (by simpa using hk3)
end Go.Proofs.YtlchdokpkaikhaaDoor
