/- Walks and lemmas on the program of this seat, used by its statements; each theorem bears its own conditions. -/
import Derived.Test.YtlchdokpkaikhaaDoorUA
namespace Go.Proofs.YtlchdokpkaikhaaDoor
open Go.RowKit
set_option linter.unusedVariables false
set_option linter.unusedSimpArgs false
def badB (s : St) : Bool := decide (¬ OkP s)
set_option maxHeartbeats 8000000 in
set_option maxRecDepth 100000 in
theorem rmay_any (s : St) (w : World) :
    Calls Tryd.prog 13 #[VS s] w fun e w' => e = .returned (.bool (mayB s)) ∧ w' = w.alloc (boxS s) := by
  go_enter Tryd.func13, Tryd.ntmps13
  go_upto_region 1 with (fail)
  go_cut [50] from 3 (fun v wx => v = .bool (badB s) ∧ wx = w.alloc (boxS s))
  case first =>
    go_wp2
    all_goals
      go_meet
      refine ⟨?_, ?_⟩
      · unfold badB OkP
        first
          | (refine bool_t ?_; omega)
          | (refine bool_f ?_; omega)
          | (refine bool_d ?_; omega)
          | (simp only [← Bool.decide_or]; refine bool_d ?_; omega)
      · first | rfl | simp [boxS, *]
  case rest =>
    obtain ⟨rfl, rfl⟩ := hcut
    go_wp2
    all_goals
      go_ret
      refine ⟨ret_B ?_, by first | rfl | simp [boxS, *]⟩
      cases hk : s.ok
      all_goals
        simp only [badB, fullB, mayB, MayP, hk, Bool.not_true, Bool.not_false, Bool.not_eq_true, Bool.not_eq_true', Bool.not_eq_false', Bool.or_true, Bool.or_false, decide_eq_true_eq, decide_eq_false_iff_not, beq_iff_eq, beq_eq_false_iff_ne, ne_eq, not_true_eq_false, not_false_eq_true, or_true, true_or, and_true, or_false, false_or, and_false, reduceCtorEq, Bool.not_not] at *
      all_goals first
        | contradiction
        | (symm; refine decide_eq_true ?_; omega)
        | (symm; refine decide_eq_false ?_; omega)
        | (refine decide_eq_decide.2 ?_; omega)
        | skip
end Go.Proofs.YtlchdokpkaikhaaDoor
