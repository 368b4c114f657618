/- Walks and lemmas on the program of this seat, used by its statements; each theorem bears its own conditions. -/
import Derived.Test.YtlchdokpkaikhaaDoorUA
import Derived.Handy
namespace Go.Proofs.YtlchdokpkaikhaaDoor
open Go.RowKit
set_option linter.unusedVariables false
set_option linter.unusedSimpArgs false
/-! ### Step -/
structure Ev where
  ki : Int
  id : Int
  sl : Int
  sz : Int
  sq : Int
  up : Bool
  ok : Bool
deriving DecidableEq
abbrev VE (e : Ev) : Value := .agg #[I e.ki, I e.id, I e.sl, I e.sz, I e.sq, .bool e.up, .bool e.ok]
def overF (s : St) (b : Bool) : St := ⟨4, s.id, s.sl, s.sz, s.sq, b, s.la⟩
def loadF (s : St) (e : Ev) : St × Int :=
  if e.ki = 1 then
    if 1 ≤ e.sz ∧ e.sz ≤ 16777215 ∧ 1 ≤ e.sq ∧ e.sq ≤ 140737488355328 then (⟨2, s.id, s.sl, e.sz, e.sq, s.ok, s.la⟩, 2) else (s, 0)
  else if e.ki = 2 then (overF s false, 5)
  else if e.ki = 3 then (s, 1) else (s, 0)
def bootF (s : St) (e : Ev) : St × Int :=
  if s.ph = 2 ∧ e.sq = s.sq then (s, 2)
  else if e.sl ≠ s.sl then (overF s false, 5)
  else if e.up = false then (overF s true, 5)
  else (⟨3, s.id, s.sl, s.sz, s.sq, s.ok, s.la⟩, 0)
def stepF (s : St) (e : Ev) : St × Int :=
  if ¬ MayP s then (s, 0)
  else if s.ph = 0 then
    if e.ki = 0 ∧ s.la < e.id ∧ e.id ≤ 2147483647 ∧ 0 ≤ e.sl ∧ e.sl ≤ 1 then (⟨1, e.id, e.sl, 0, 0, false, s.la⟩, 1) else (s, 0)
  else if s.ph = 1 then loadF s e
  else if s.ph = 4 then
    if e.ki = 5 then (⟨0, 0, 0, 0, 0, false, s.id⟩, 0) else if e.ki = 3 then (s, 5) else (s, 0)
  else if e.ki = 3 then bootF s e
  else if e.ki = 4 ∧ s.ph = 3 then (s, if e.ok = true then 3 else 4)
  else (s, 0)
abbrev VT (p : St × Int) : Value := .tuple #[VS p.1, I p.2]
theorem ret_T {p q : St × Int} (h : p = q) : Ending.returned (VT p) = .returned (VT q) := by rw [h]
set_option maxHeartbeats 4000000 in
set_option maxRecDepth 100000 in
theorem load_any (s : St) (e : Ev) (w : World) :
    Calls Tryd.prog 18 #[VS s, VE e] w fun r w' => r = .returned (VT (loadF s e)) ∧ Kept [] w w' := by
  go_enter Tryd.func18, Tryd.ntmps18
  go_wp2
  all_goals (try (go_region; go_wp2))
  all_goals
    go_returns
    refine ⟨?_, by repeat (first | exact Kept.refl _ _ | refine Kept.alloc ?_ _ | refine Kept.drew ?_)⟩
    try simp only [beq_iff_eq, beq_eq_false_iff_ne, ne_eq, Bool.not_eq_true] at *
    unfold loadF overF
    (repeat' split) <;> first
      | rfl
      | (exfalso; omega)
      | (simp_all; done)
      | skip
set_option maxHeartbeats 4000000 in
set_option maxRecDepth 100000 in
theorem booted_any (s : St) (e : Ev) (w : World) :
    Calls Tryd.prog 19 #[VS s, VE e] w fun r w' => r = .returned (VT (bootF s e)) ∧ Kept [] w w' := by
  go_enter Tryd.func19, Tryd.ntmps19
  go_wp2
  all_goals
    go_returns
    refine ⟨?_, by repeat (first | exact Kept.refl _ _ | refine Kept.alloc ?_ _ | refine Kept.drew ?_)⟩
    try simp only [beq_iff_eq, beq_eq_false_iff_ne, ne_eq, Bool.not_eq_true] at *
    unfold bootF overF
    (repeat' split) <;> first
      | rfl
      | (exfalso; omega)
      | (simp_all; done)
      | skip
end Go.Proofs.YtlchdokpkaikhaaDoor
