/- Walks and lemmas on the program of this seat, used by its statements; each theorem bears its own conditions. -/
import Derived.Test.YtlchdokpkaikhaaDoorUC
import Derived.Handy
namespace Go.Proofs.YtlchdokpkaikhaaDoor
open Go.RowKit
set_option linter.unusedVariables false
set_option linter.unusedSimpArgs false
theorem stepF_not {s : St} {e : Ev} (h : ¬ MayP s) : stepF s e = (s, 0) := by unfold stepF; rw [if_pos h]
theorem stepF_0 {s : St} {e : Ev} (h : MayP s) (h0 : s.ph = 0) : stepF s e = if e.ki = 0 ∧ s.la < e.id ∧ e.id ≤ 2147483647 ∧ 0 ≤ e.sl ∧ e.sl ≤ 1 then (⟨1, e.id, e.sl, 0, 0, false, s.la⟩, 1) else (s, 0) := by
  unfold stepF; rw [if_neg (fun x => x h), if_pos h0]
theorem stepF_1 {s : St} {e : Ev} (h : MayP s) (h0 : s.ph = 1) : stepF s e = loadF s e := by
  unfold stepF; rw [if_neg (fun x => x h), if_neg (by omega), if_pos h0]
theorem stepF_4 {s : St} {e : Ev} (h : MayP s) (h0 : s.ph = 4) : stepF s e = if e.ki = 5 then (⟨0, 0, 0, 0, 0, false, s.id⟩, 0) else if e.ki = 3 then (s, 5) else (s, 0) := by
  unfold stepF; rw [if_neg (fun x => x h), if_neg (by omega), if_neg (by omega), if_pos h0]
theorem stepF_23 {s : St} {e : Ev} (h : MayP s) (h0 : s.ph = 2 ∨ s.ph = 3) : stepF s e = if e.ki = 3 then bootF s e else if e.ki = 4 ∧ s.ph = 3 then (s, if e.ok = true then 3 else 4) else (s, 0) := by
  unfold stepF; rw [if_neg (fun x => x h), if_neg (by omega), if_neg (by omega), if_neg (by omega)]
theorem mayB_t {s : St} (h : MayP s) : mayB s = true := decide_eq_true h
theorem mayB_f {s : St} (h : ¬ MayP s) : mayB s = false := decide_eq_false h
theorem may_ph {s : St} (h : MayP s) : s.ph = 0 ∨ s.ph = 1 ∨ (s.ph = 2 ∨ s.ph = 3) ∨ s.ph = 4 := by
  obtain ⟨_, h | h | h | h⟩ := h
  · exact .inl h.1
  · exact .inr (.inl h.1)
  · exact .inr (.inr (.inl h.1))
  · exact .inr (.inr (.inr h.1))
theorem may_at (s : St) (b : Bool) (w : World) (h : mayB s = b) :
    Calls Tryd.prog 12 #[VS s] w fun e w' => e = .returned (.bool b) ∧ w' = w.alloc (boxS s) := h ▸ may_any s w
set_option maxHeartbeats 4000000 in
set_option maxRecDepth 100000 in
theorem step_no (s : St) (e : Ev) (w : World) (h : ¬ MayP s) :
    Calls Tryd.prog 9 #[VS s, VE e] w fun r w' => r = .returned (VT (stepF s e)) ∧ Kept [] w w' := by
  have HM := Lib.hid (mayB_f h)
  have HE := Lib.hid (stepF_not (e := e) h)
  clear h
  go_enter Tryd.func9, Tryd.ntmps9
  go_wp2_with (fail)
  refine (may_at s false _ HM.out).mono ?_
  rintro r w1 ⟨rfl, rfl⟩
  go_wp2
  all_goals (try (go_region; go_wp2))
  all_goals
    go_returns
    refine ⟨?_, by repeat (first | exact Kept.refl _ _ | refine Kept.alloc ?_ _ | refine Kept.drew ?_)⟩
    try simp only [beq_iff_eq, beq_eq_false_iff_ne, ne_eq, Bool.not_eq_true] at *
    rw [HE.out]
set_option maxHeartbeats 4000000 in
set_option maxRecDepth 100000 in
theorem step_0 (s : St) (e : Ev) (w : World) (h : MayP s) (h0 : s.ph = 0) :
    Calls Tryd.prog 9 #[VS s, VE e] w fun r w' => r = .returned (VT (stepF s e)) ∧ Kept [] w w' := by
  have HM := Lib.hid (mayB_t h)
  have HE := Lib.hid (stepF_0 (e := e) h h0)
  clear h
  have X0 := Lib.hid h0
  clear h0
  go_enter Tryd.func9, Tryd.ntmps9
  go_wp2_with (fail)
  refine (may_at s true _ HM.out).mono ?_
  rintro r w1 ⟨rfl, rfl⟩
  have h0 := X0.out
  go_wp2
  all_goals (try (go_region; go_wp2))
  all_goals
    go_returns
    refine ⟨?_, by repeat (first | exact Kept.refl _ _ | refine Kept.alloc ?_ _ | refine Kept.drew ?_)⟩
    try simp only [beq_iff_eq, beq_eq_false_iff_ne, ne_eq, Bool.not_eq_true] at *
    rw [HE.out]
    (repeat' split) <;> first
      | rfl
      | (exfalso; omega)
      | (simp_all; done)
      | skip
set_option maxHeartbeats 4000000 in
set_option maxRecDepth 100000 in
theorem step_1 (s : St) (e : Ev) (w : World) (h : MayP s) (h0 : s.ph = 1) :
    Calls Tryd.prog 9 #[VS s, VE e] w fun r w' => r = .returned (VT (stepF s e)) ∧ Kept [] w w' := by
  have HM := Lib.hid (mayB_t h)
  have HE := Lib.hid (stepF_1 (e := e) h h0)
  clear h
  have X0 := Lib.hid h0
  clear h0
  go_enter Tryd.func9, Tryd.ntmps9
  go_wp2_with (fail)
  refine (may_at s true _ HM.out).mono ?_
  rintro r w1 ⟨rfl, rfl⟩
  have h0 := X0.out
  go_wp2
  all_goals (try (go_region; go_wp2))
  all_goals
    go_returns
    refine ⟨?_, by repeat (first | exact Kept.refl _ _ | refine Kept.alloc ?_ _ | refine Kept.drew ?_)⟩
    try simp only [beq_iff_eq, beq_eq_false_iff_ne, ne_eq, Bool.not_eq_true] at *
    rw [HE.out]
    unfold loadF overF
    (repeat' split) <;> first
      | rfl
      | (exfalso; omega)
      | (simp_all; done)
      | skip
set_option maxHeartbeats 4000000 in
set_option maxRecDepth 100000 in
theorem step_4 (s : St) (e : Ev) (w : World) (h : MayP s) (h0 : s.ph = 4) :
    Calls Tryd.prog 9 #[VS s, VE e] w fun r w' => r = .returned (VT (stepF s e)) ∧ Kept [] w w' := by
  have HM := Lib.hid (mayB_t h)
  have HE := Lib.hid (stepF_4 (e := e) h h0)
  clear h
  have X0 := Lib.hid h0
  clear h0
  go_enter Tryd.func9, Tryd.ntmps9
  go_wp2_with (fail)
  refine (may_at s true _ HM.out).mono ?_
  rintro r w1 ⟨rfl, rfl⟩
  have h0 := X0.out
  go_wp2
  all_goals (try (go_region; go_wp2))
  all_goals
    go_returns
    refine ⟨?_, by repeat (first | exact Kept.refl _ _ | refine Kept.alloc ?_ _ | refine Kept.drew ?_)⟩
    try simp only [beq_iff_eq, beq_eq_false_iff_ne, ne_eq, Bool.not_eq_true] at *
    rw [HE.out]
    (repeat' split) <;> first
      | rfl
      | (exfalso; omega)
      | (simp_all; done)
      | skip
set_option maxHeartbeats 4000000 in
set_option maxRecDepth 100000 in
theorem step_2 (s : St) (e : Ev) (w : World) (h : MayP s) (h0 : s.ph = 2) :
    Calls Tryd.prog 9 #[VS s, VE e] w fun r w' => r = .returned (VT (stepF s e)) ∧ Kept [] w w' := by
  have h23 := Lib.hid (Or.inl h0 : s.ph = 2 ∨ s.ph = 3)
  have HM := Lib.hid (mayB_t h)
  have HE := Lib.hid (stepF_23 (e := e) h h23.out)
  clear h
  have X0 := Lib.hid h0
  clear h0
  go_enter Tryd.func9, Tryd.ntmps9
  go_wp2_with (fail)
  refine (may_at s true _ HM.out).mono ?_
  rintro r w1 ⟨rfl, rfl⟩
  have h0 := X0.out
  go_wp2
  all_goals (try (go_region; go_wp2))
  all_goals
    go_returns
    refine ⟨?_, by repeat (first | exact Kept.refl _ _ | refine Kept.alloc ?_ _ | refine Kept.drew ?_)⟩
    try simp only [beq_iff_eq, beq_eq_false_iff_ne, ne_eq, Bool.not_eq_true] at *
    rw [HE.out]
    unfold bootF overF
    (repeat' split) <;> first
      | rfl
      | (exfalso; omega)
      | (simp_all; done)
      | skip
set_option maxHeartbeats 4000000 in
set_option maxRecDepth 100000 in
theorem step_3 (s : St) (e : Ev) (w : World) (h : MayP s) (h0 : s.ph = 3) :
    Calls Tryd.prog 9 #[VS s, VE e] w fun r w' => r = .returned (VT (stepF s e)) ∧ Kept [] w w' := by
  have h23 := Lib.hid (Or.inr h0 : s.ph = 2 ∨ s.ph = 3)
  have HM := Lib.hid (mayB_t h)
  have HE := Lib.hid (stepF_23 (e := e) h h23.out)
  clear h
  have X0 := Lib.hid h0
  clear h0
  go_enter Tryd.func9, Tryd.ntmps9
  go_wp2_with (fail)
  refine (may_at s true _ HM.out).mono ?_
  rintro r w1 ⟨rfl, rfl⟩
  have h0 := X0.out
  go_wp2
  all_goals (try (go_region; go_wp2))
  all_goals
    go_returns
    refine ⟨?_, by repeat (first | exact Kept.refl _ _ | refine Kept.alloc ?_ _ | refine Kept.drew ?_)⟩
    try simp only [beq_iff_eq, beq_eq_false_iff_ne, ne_eq, Bool.not_eq_true] at *
    rw [HE.out]
    unfold bootF overF
    (repeat' split) <;> first
      | rfl
      | (exfalso; omega)
      | (simp_all; done)
      | skip
theorem step_any (s : St) (e : Ev) (w : World) :
    Calls Tryd.prog 9 #[VS s, VE e] w fun r w' => r = .returned (VT (stepF s e)) ∧ Kept [] w w' := by
  by_cases h : MayP s
  · rcases may_ph h with h0 | h0 | (h0 | h0) | h0
    · exact step_0 s e w h h0
    · exact step_1 s e w h h0
    · exact step_2 s e w h h0
    · exact step_3 s e w h h0
    · exact step_4 s e w h h0
  · exact step_no s e w h
end Go.Proofs.YtlchdokpkaikhaaDoor
