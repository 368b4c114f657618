/- Walks and lemmas on the program of this seat, used by its statements; each theorem bears its own conditions. -/
import Derived.Test.YtdkjlaldhohbmaaGreatOM
import Derived.Handy
import Derived.OwnWalk
import Derived.Deep.AppendLies
import Derived.IntWalk
import Derived.Deep.CutRange
import Derived.Deep.RegionHeld3
import Derived.Deep.RegionLaw
namespace Go.Proofs.YtdkjlaldhohbmaaGreat
open Go.RowKit
set_option linter.unusedVariables false
set_option linter.unusedSimpArgs false
set_option maxHeartbeats 8000000
set_option maxRecDepth 100000
/-! ### Room behind an Append -/
theorem pageOf_free (P : List UInt8) (m q : Nat) (hP : P.length + 64 * m = 512) (h1 : 8 - m ≤ q) (h2 : q ≤ 7) : allB (pageOf (P ++ List.replicate (64 * m) 255) q) = true := by
  unfold pageOf
  rw [List.drop_append, List.drop_of_length_le (by omega), List.nil_append, List.drop_replicate, List.take_replicate]
  unfold allB
  simp
theorem roomF_go (P : List UInt8) (m : Nat) (hP : P.length + 64 * m = 512) (hm : m ≤ 7) (hl : m < 7 → allB (pageOf (P ++ List.replicate (64 * m) 255) (7 - m)) = false) (j : Nat) (hj : j ≤ m) : roomF (P ++ List.replicate (64 * m) 255) (7 - m + j) = j := by
  induction j with
  | zero =>
    by_cases h : m = 7
    · subst h; rfl
    · obtain ⟨q, hq⟩ : ∃ q, 7 - m = q + 1 := ⟨6 - m, by omega⟩
      have h1 := hl (by omega)
      rw [Nat.add_zero, hq]
      rw [hq] at h1
      show (if allB (pageOf _ (q + 1)) = true then roomF _ q + 1 else 0) = 0
      rw [if_neg (by rw [h1]; decide)]
  | succ j ih =>
    show (if allB (pageOf _ (7 - m + j + 1)) = true then roomF _ (7 - m + j) + 1 else 0) = _
    rw [if_pos (pageOf_free P m _ hP (by omega) (by omega)), ih (by omega)]
theorem roomF_is (P : List UInt8) (m : Nat) (hP : P.length + 64 * m = 512) (hm : m ≤ 7) (hl : m < 7 → allB (pageOf (P ++ List.replicate (64 * m) 255) (7 - m)) = false) : roomF (P ++ List.replicate (64 * m) 255) 7 = m := by
  have := roomF_go P m hP hm hl m (Nat.le_refl _)
  rw [show 7 - m + m = 7 by omega] at this
  exact this
theorem pagesR_head (r : List UInt8) (i : Nat) (g : List UInt8) (h : (pagesR r)[i]? = some g) : byteAt g 0 ≠ 255 := by
  unfold pagesR at h
  cases i with
  | zero =>
    have : padP ([1] ++ putN 2 r.length ++ [0] ++ r.take 60) = g := by simpa using h
    rw [← this]
    show (1 : UInt8) ≠ 255
    decide
  | succ i =>
    rw [List.getElem?_cons_succ, List.getElem?_map] at h
    cases hc : (chunksF 7 (r.drop 60))[i]? with
    | none => rw [hc] at h; cases h
    | some c =>
      rw [hc] at h
      have : padP (2 :: c) = g := Option.some.inj h
      rw [← this]
      show (2 : UInt8) ≠ 255
      decide
theorem allB_not (l : List UInt8) (h : l ≠ []) (h2 : byteAt l 0 ≠ 255) : allB l = false := by
  cases l with
  | nil => exact absurd rfl h
  | cons c l =>
    have h3 : c ≠ 255 := h2
    unfold allB
    simp [h3]
/-- The room of a segment whose last record is r. -/
theorem room_rec (P r : List UInt8) (p m : Nat) (hr : r.length ≤ 400) (hP : P.length = 64 * p) (hm : p + pagesF r.length + m = 8) (hp : 1 ≤ p) : roomF (P ++ recB r ++ List.replicate (64 * m) 255) 7 = m := by
  have hpp := pages_pos r.length
  have hrl := recB_len r hr
  refine roomF_is (P ++ recB r) m (by rw [List.length_append, hrl, hP]; omega) (by omega) fun _ => ?_
  obtain ⟨g, hg⟩ : ∃ g, (pagesR r)[pagesF r.length - 1]? = some g := ⟨_, List.getElem?_eq_getElem (by rw [pagesR_len r hr]; omega)⟩
  obtain ⟨X, Y, e, hX, hl⟩ := page_at r P (List.replicate (64 * m) 255) p hr hP _ g hg
  have e2 : pageOf (P ++ recB r ++ List.replicate (64 * m) 255) (7 - m) = g := by
    unfold pageOf
    rw [e, show 64 * (7 - m) = X.length by rw [hX]; omega, List.append_assoc, List.drop_left, show (64 : Nat) = g.length from hl.symm, List.take_left]
  rw [e2]
  exact allB_not g (by intro h; rw [h] at hl; cases hl) (pagesR_head r _ g hg)
theorem room_head (num : Nat) : roomF (headL num ++ List.replicate 448 255) 7 = 7 :=
  roomF_is (headL num) 7 (by rw [headL_len]) (by omega) (fun h => by omega)
end Go.Proofs.YtdkjlaldhohbmaaGreat
