/- Walks and lemmas on the program of this seat, used by its statements; each theorem bears its own conditions. -/
import Derived.Test.YtlchdokpkaikhaaDoorGen
namespace Go.Proofs.YtlchdokpkaikhaaDoor
open Go.RowKit
set_option linter.unusedVariables false
set_option linter.unusedSimpArgs false
structure St where
  ph : Int
  id : Int
  sl : Int
  sz : Int
  sq : Int
  ok : Bool
  la : Int
deriving DecidableEq
abbrev VS (s : St) : Value := .agg #[I s.ph, I s.id, I s.sl, I s.sz, I s.sq, .bool s.ok, I s.la]
abbrev boxS (s : St) : Obj := .cells #[I s.ph, I s.id, I s.sl, I s.sz, I s.sq, .bool s.ok, I s.la] 23
abbrev OkP (s : St) : Prop := 0 ≤ s.id ∧ s.id ≤ 2147483647 ∧ 0 ≤ s.la ∧ s.la ≤ 2147483647 ∧ (0 ≤ s.sl ∧ s.sl ≤ 1) ∧ 0 ≤ s.sz ∧ s.sz ≤ 16777215 ∧ 0 ≤ s.sq ∧ s.sq ≤ 140737488355328
def MayP (s : St) : Prop := OkP s ∧
  ((s.ph = 0 ∧ s.id = 0 ∧ s.sl = 0 ∧ s.sz = 0 ∧ s.sq = 0 ∧ s.ok = false) ∨ (s.ph = 1 ∧ s.la < s.id ∧ s.sz = 0 ∧ s.sq = 0 ∧ s.ok = false) ∨
   ((s.ph = 2 ∨ s.ph = 3) ∧ s.la < s.id ∧ 0 < s.sz ∧ 0 < s.sq ∧ s.ok = false) ∨ (s.ph = 4 ∧ s.la < s.id ∧ (s.ok = false ∨ 0 < s.sz ∧ 0 < s.sq)))
instance (s : St) : Decidable (MayP s) := by unfold MayP; infer_instance
def mayB (s : St) : Bool := decide (MayP s)
def okB (s : St) : Bool := decide (OkP s)
def fullB (s : St) : Bool := decide (0 < s.sz ∧ 0 < s.sq)
theorem bool_t {p : Prop} [Decidable p] (h : p) : Value.bool true = .bool (decide p) := congrArg _ (decide_eq_true h).symm
theorem bool_f {p : Prop} [Decidable p] (h : ¬ p) : Value.bool false = .bool (decide p) := congrArg _ (decide_eq_false h).symm
theorem bool_d {p q : Prop} [Decidable p] [Decidable q] (h : p ↔ q) : Value.bool (decide p) = .bool (decide q) := congrArg _ (decide_eq_decide.2 h)
set_option maxHeartbeats 4000000 in
set_option maxRecDepth 100000 in
theorem may_any (s : St) (w : World) :
    Calls Tryd.prog 12 #[VS s] w fun e w' => e = .returned (.bool (mayB s)) ∧ w' = w.alloc (boxS s) := by
  go_enter Tryd.func12, Tryd.ntmps12
  go_upto_region 1 with (fail)
  go_cut [3] from 5 (fun v wx => v = .bool (okB s) ∧ wx = w.alloc (boxS s))
  case first =>
    go_wp2
    all_goals
      go_meet
      refine ⟨?_, ?_⟩
      · unfold okB OkP
        first
          | (refine bool_t ?_; omega)
          | (refine bool_f ?_; omega)
          | (refine bool_d ?_; omega)
      · first | rfl | simp [boxS, *]
  case rest =>
    obtain ⟨rfl, rfl⟩ := hcut
    go_upto_region 2 with (fail)
    go_cut [4] from 53 (fun v wx => v = .bool (fullB s) ∧ wx = w.alloc (boxS s))
    case first =>
      go_wp2
      all_goals
        go_meet
        refine ⟨?_, ?_⟩
        · unfold fullB
          first
            | (refine bool_t ?_; omega)
            | (refine bool_f ?_; omega)
            | (refine bool_d ?_; omega)
        · first | rfl | simp [boxS, *]
    case rest =>
      obtain ⟨rfl, rfl⟩ := hcut
      go_wp2
      all_goals
        go_ret
        refine ⟨ret_B ?_, by first | rfl | simp [boxS, *]⟩
        cases hk : s.ok
        all_goals
          simp only [okB, fullB, mayB, MayP, hk, Bool.not_true, Bool.not_false, Bool.not_eq_true, Bool.or_true, Bool.or_false, decide_eq_true_eq, decide_eq_false_iff_not, beq_iff_eq, beq_eq_false_iff_ne, ne_eq, not_true_eq_false, not_false_eq_true, or_true, true_or, and_true, or_false, false_or, and_false, reduceCtorEq] at *
        all_goals first
          | contradiction
          | (symm; refine decide_eq_true ?_; omega)
          | (symm; refine decide_eq_false ?_; omega)
          | (refine decide_eq_decide.2 ?_; omega)
          | skip
end Go.Proofs.YtlchdokpkaikhaaDoor
