/- Walks and lemmas on the program of this seat, used by its statements; each theorem bears its own conditions. -/
import Derived.Test.YtdkjlaldhohbmaaGreatON
import Derived.Handy
import Derived.OwnWalk
import Derived.Deep.AppendLies
import Derived.IntWalk
import Derived.Deep.CutRange
import Derived.Deep.RegionHeld3
import Derived.Deep.RegionLaw
namespace Go.Proofs.YtdkjlaldhohbmaaGreat
open Go.RowKit
set_option linter.unusedVariables false
set_option linter.unusedSimpArgs false
set_option maxHeartbeats 8000000
set_option maxRecDepth 100000
/-! ### A segment's bytes by its records -/
def usedF : List (List UInt8) → Nat
  | [] => 0
  | r :: rs => pagesF r.length + usedF rs
theorem usedF_snoc (rs : List (List UInt8)) (r : List UInt8) : usedF (rs ++ [r]) = usedF rs + pagesF r.length := by
  induction rs with
  | nil => simp [usedF]
  | cons x rs ih => simp only [List.cons_append, usedF, ih]; omega
def segP (num : Nat) (rs : List (List UInt8)) : List UInt8 := headL num ++ (rs.map recB).flatten
def segB (num : Nat) (rs : List (List UInt8)) : List UInt8 := segP num rs ++ List.replicate (64 * (7 - usedF rs)) 255
theorem segP_len (num : Nat) (rs : List (List UInt8)) (hr : ∀ r ∈ rs, r.length ≤ 400) : (segP num rs).length = 64 * (1 + usedF rs) := by
  unfold segP
  rw [List.length_append, headL_len]
  induction rs with
  | nil => simp [usedF]
  | cons x rs ih =>
    have := ih (fun r h => hr r (by simp [h]))
    simp only [List.map_cons, List.flatten_cons, List.length_append, recB_len x (hr x (by simp)), usedF]
    omega
theorem segP_snoc (num : Nat) (rs : List (List UInt8)) (r : List UInt8) : segP num (rs ++ [r]) = segP num rs ++ recB r := by
  unfold segP; simp
theorem seg_app (f : Fl) (k num : Nat) (rs : List (List UInt8)) (r : List UInt8) (hrs : ∀ r ∈ rs, r.length ≤ 400) (hr : r.length ≤ 400) (h : 512 * k + 512 ≤ f.bs.length) (hb : blockOf f.bs k = segB num rs) (hu : usedF rs + pagesF r.length ≤ 7) :
    blockOf (appF f (512 * k + 64 * (1 + usedF rs)) r).bs k = segB num (rs ++ [r]) := by
  have := appF_block f k r (segP num rs) (64 * (7 - usedF rs)) hr h hb (by omega)
  rw [segP_len num rs hrs] at this
  rw [this]
  unfold segB
  rw [segP_snoc, usedF_snoc]
  congr 2
  omega
theorem seg_room (num : Nat) (rs : List (List UInt8)) (hrs : ∀ r ∈ rs, r.length ≤ 400) (hu : usedF rs ≤ 7) : roomF (segB num rs) 7 = 7 - usedF rs := by
  rcases List.eq_nil_or_concat rs with rfl | ⟨rs', r, rfl⟩
  · have := room_head num
    unfold segB segP
    simpa [usedF] using this
  · rw [List.concat_eq_append] at *
    rw [usedF_snoc] at hu ⊢
    unfold segB
    rw [segP_snoc, usedF_snoc]
    exact room_rec _ r (1 + usedF rs') _ (hrs r (by simp)) (segP_len num rs' (fun x h => hrs x (by simp [h]))) (by omega) (by omega)
theorem seg_made (f : Fl) (fs k num : Nat) (h : 512 * (fs + k) + 512 ≤ f.bs.length) (hb : blockOf f.bs (fs + k) = fullB) : blockOf (madeF f fs k num).bs (fs + k) = segB num [] := by
  show blockOf (progL (progL f.bs (512 * fs + k * 512) (83 :: putN 6 num)) (512 * fs + (k * 512 + 7)) [0]) (fs + k) = _
  rw [show 512 * fs + (k * 512 + 7) = 512 * (fs + k) + 7 by omega, show 512 * fs + k * 512 = 512 * (fs + k) + 0 by omega, prog_same (by rw [progL_len]; exact h), prog_same h, hb, made_block]
  unfold segB segP
  simp [usedF]
theorem seg_made_other (f : Fl) (fs k num j : Nat) (hn : j ≠ fs + k) (h : 512 * j + 512 ≤ f.bs.length) : blockOf (madeF f fs k num).bs j = blockOf f.bs j := by
  show blockOf (progL (progL f.bs (512 * fs + k * 512) (83 :: putN 6 num)) (512 * fs + (k * 512 + 7)) [0]) j = _
  rw [show 512 * fs + (k * 512 + 7) = 512 * (fs + k) + 7 by omega, show 512 * fs + k * 512 = 512 * (fs + k) + 0 by omega, prog_other (by rw [progL_len]; exact h) hn (by simp), prog_other h hn (by simp [putN_len])]
theorem seg_free (num : Nat) (rs : List (List UInt8)) (hrs : ∀ r ∈ rs, r.length ≤ 400) (q : Nat) (h1 : 1 + usedF rs ≤ q) (h2 : q < 8) : byteAt (segB num rs) (64 * q) = 255 := by
  unfold segB byteAt
  rw [List.getD_eq_getElem?_getD, List.getElem?_append_right (by rw [segP_len num rs hrs]; omega), List.getElem?_replicate, if_pos (by rw [segP_len num rs hrs]; omega)]
  rfl
theorem segB_len (num : Nat) (rs : List (List UInt8)) (hrs : ∀ r ∈ rs, r.length ≤ 400) (hu : usedF rs ≤ 7) : (segB num rs).length = 512 := by
  unfold segB
  rw [List.length_append, segP_len num rs hrs, List.length_replicate]
  omega
theorem usedF_append (a b : List (List UInt8)) : usedF (a ++ b) = usedF a + usedF b := by
  induction a with
  | nil => simp [usedF]
  | cons x a ih => simp only [List.cons_append, usedF, ih]; omega
theorem record_seg (num : Nat) (a : List (List UInt8)) (r : List UInt8) (b : List (List UInt8)) (hrs : ∀ x ∈ a ++ r :: b, x.length ≤ 400) (hu : usedF (a ++ r :: b) ≤ 7) (w : World) :
    Calls Tryz.prog 91 #[S (segB num (a ++ r :: b)), I (1 + usedF a : Nat)] w fun e w' => e = .returned (.tuple #[S r, I (pagesF r.length)]) ∧ w' = w := by
  have hl := segB_len num _ hrs hu
  have e : segB num (a ++ r :: b) = segP num a ++ recB r ++ ((b.map recB).flatten ++ List.replicate (64 * (7 - usedF (a ++ r :: b))) 255) := by
    unfold segB segP
    simp
  rw [e] at hl ⊢
  exact record_reads r (segP num a) _ _ (hrs r (by simp)) (segP_len num a (fun x h => hrs x (by simp [h]))) hl w
theorem record_end (num : Nat) (a : List (List UInt8)) (hrs : ∀ x ∈ a, x.length ≤ 400) (hu : usedF a ≤ 7) (q : Nat) (h1 : 1 + usedF a ≤ q) (h2 : q < 8) (w : World) :
    Calls Tryz.prog 91 #[S (segB num a), I q] w fun e w' => e = .returned (.tuple #[S [], I 0]) ∧ w' = w :=
  record_none _ (segB_len num a hrs hu) q h2 (by rw [seg_free num a hrs q h1 h2]; decide) w
end Go.Proofs.YtdkjlaldhohbmaaGreat
