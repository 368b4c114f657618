/- Walks and lemmas on the program of this seat, used by its statements; each theorem bears its own conditions. -/
import Derived.Test.YtncdfaocemfgfaaGreatDoorW37
import Derived.Test.YtncdfaocemfgfaaGreatDoorW30
import Derived.OwnWalk
import Derived.Laws.AppendOwnNone
import Derived.Handy
import Derived.Deep.AppendLies
import Derived.IntWalk
import Derived.Deep.CutRange
import Derived.Deep.RegionHeld3
import Derived.Deep.RegionLaw
namespace Go.Proofs.YtncdfaocemfgfaaGreatDoor
open Go.RowKit
set_option linter.unusedVariables false
set_option linter.unusedSimpArgs false
set_option linter.unusedSectionVars false
open Go.RowKit
set_option linter.unusedVariables false
set_option linter.unusedSimpArgs false
set_option maxHeartbeats 8000000
set_option maxRecDepth 100000
theorem Kept.grown {a w w' : World} {row : Option Nat} (h : Kept [] a w) (g : w.grownBy w' row) (hr : ∀ k, row = some k → a.heap.size ≤ k) : Kept [] a w' :=
  ⟨g.os.trans h.os, g.tape.trans h.tape, g.output.trans h.output, Nat.le_trans h.size g.size, fun k hk hn =>
    (g.block k (by have := h.size; omega) (fun e => by have := hr k e.symm; omega)).trans (h.block k hk hn)⟩
def slashed (ns : List (List UInt8)) : List UInt8 := ns.flatMap (47 :: ·)
theorem slashed_inter (ns : List (List UInt8)) (h : ns ≠ []) : slashed ns = 47 :: [47].intercalate ns := by
  induction ns with
  | nil => exact absurd rfl h
  | cons n r ih =>
    cases r with
    | nil => simp [slashed, List.intercalate, List.intersperse]
    | cons m r =>
      have := ih (by simp)
      simp [slashed, List.intercalate, List.intersperse] at this ⊢
      exact this
theorem pieces_none (a : List UInt8) (h : ∀ x ∈ a, x ≠ 47) : WX.pieces 47 a = [a] := by
  have := WX.pieces_clean 47 a [] h
  rw [List.append_nil] at this
  rw [this]; simp [WX.pieces]
theorem pieces_cut (a r : List UInt8) (h : ∀ x ∈ a, x ≠ 47) : WX.pieces 47 (a ++ 47 :: r) = a :: WX.pieces 47 r := by
  rw [WX.pieces_clean 47 a _ h]
  conv => lhs; unfold WX.pieces
  rw [if_pos rfl]; simp
theorem seg_cut (s : List UInt8) (f i : Nat) (hf : f ≤ i) (hi : i < s.length) (h : byteAt s i = 47) : s.drop f = (s.take i).drop f ++ 47 :: s.drop (i + 1) := by
  have h1 : s.drop i = 47 :: s.drop (i + 1) := by
    rw [List.drop_eq_getElem_cons hi, ← byteAt_eq s i hi, h]
  have h2 : s = s.take i ++ s.drop i := (List.take_append_drop i s).symm
  conv => lhs; rw [h2]
  rw [List.drop_append_of_le_length (by rw [List.length_take]; omega), h1]
/-- Where the reference's loop stands. -/
def PathAt (s : List UInt8) (i f : Nat) (ps : List (List UInt8)) : Prop :=
  (i ≤ s.length ∧ 1 ≤ f ∧ f ≤ i ∧ (∀ x ∈ (s.take i).drop f, x ≠ 47) ∧ ps ++ WX.pieces 47 (s.drop f) = WX.pieces 47 (s.drop 1)) ∨ (i = s.length + 1 ∧ f = s.length + 1 ∧ ps = WX.pieces 47 (s.drop 1))
theorem PathAt.len {s : List UInt8} {i f : Nat} {ps : List (List UInt8)} (h : PathAt s i f ps) : ps.length ≤ (WX.pieces 47 (s.drop 1)).length := by
  rcases h with ⟨_, _, _, _, h⟩ | ⟨_, _, h⟩
  · have := congrArg List.length h; rw [List.length_append] at this; omega
  · rw [h]; exact Nat.le_refl _
theorem PathAt.last {s : List UInt8} {f : Nat} {ps : List (List UInt8)} (h : PathAt s s.length f ps) : PathAt s (s.length + 1) (s.length + 1) (ps ++ [(s.take s.length).drop f]) := by
  rcases h with ⟨_, _, _, h4, h5⟩ | ⟨h, _, _⟩
  · refine .inr ⟨rfl, rfl, ?_⟩
    rw [List.take_length] at h4 ⊢
    rw [pieces_none _ h4] at h5; exact h5
  · omega
theorem PathAt.cut {s : List UInt8} {i f : Nat} {ps : List (List UInt8)} (h : PathAt s i f ps) (hi : i < s.length) (h47 : byteAt s i = 47) : PathAt s (i + 1) (i + 1) (ps ++ [(s.take i).drop f]) := by
  rcases h with ⟨h1, h2, h3, h4, h5⟩ | ⟨h, _, _⟩
  · refine .inl ⟨hi, by omega, Nat.le_refl _, by simp, ?_⟩
    rw [seg_cut s f i h3 hi h47, pieces_cut _ _ h4] at h5
    rw [← h5]; simp
  · omega
def RPathPost (w : World) (res : Option (List (List UInt8))) (e : Ending) (w' : World) : Prop :=
  (match res with | none => e = .returned (.tuple #[.slice none 0 0, I 10]) | some ns => ∃ v, e = .returned (.tuple #[v, I 0]) ∧ StrsAt w' v ns) ∧ Kept [] w w'
theorem RPathPost.no {w w' : World} {res : Option (List (List UInt8))} (h : res = none) (k : Kept [] w w') : RPathPost w res (.returned (.tuple #[.slice none 0 0, I 10])) w' := by subst h; exact ⟨rfl, k⟩
theorem RPathPost.yes {w w' : World} {res : Option (List (List UInt8))} {ns : List (List UInt8)} {v : Value} (h : res = some ns) (hn : StrsAt w' v ns) (k : Kept [] w w') : RPathPost w res (.returned (.tuple #[v, I 0])) w' := by subst h; exact ⟨⟨v, rfl, hn⟩, k⟩
end Go.Proofs.YtncdfaocemfgfaaGreatDoor
