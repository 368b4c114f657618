/- Walks and lemmas on the program of this seat, used by its statements; each theorem bears its own conditions. -/
import Derived.Test.YtdkjlaldhohbmaaGreatOL
import Derived.Handy
import Derived.OwnWalk
import Derived.Deep.AppendLies
import Derived.IntWalk
import Derived.Deep.CutRange
import Derived.Deep.RegionHeld3
import Derived.Deep.RegionLaw
namespace Go.Proofs.YtdkjlaldhohbmaaGreat
open Go.RowKit
set_option linter.unusedVariables false
set_option linter.unusedSimpArgs false
set_option maxHeartbeats 8000000
set_option maxRecDepth 100000
set_option linter.unusedSectionVars false
/-! ### A record is read as it was laid -/
theorem chunks_at (k : Nat) : ∀ (x : List UInt8) (i : Nat), i < k → 63 * i < x.length → (chunksF k x)[i]? = some ((x.drop (63 * i)).take 63) := by
  induction k with
  | zero => intro x i hi; omega
  | succ k ih =>
    intro x i hi hx
    have hne : x ≠ [] := by intro h; subst h; simp at hx
    show (if x = [] then [] else x.take 63 :: chunksF k (x.drop 63))[i]? = _
    rw [if_neg hne]
    cases i with
    | zero => simp
    | succ i =>
      rw [List.getElem?_cons_succ, ih _ i (by omega) (by rw [List.length_drop]; omega), List.drop_drop, show 63 + 63 * i = 63 * (i + 1) by omega]
theorem page_cut (l : List (List UInt8)) : ∀ (i : Nat) (g : List UInt8), (∀ x ∈ l, x.length = 64) → l[i]? = some g → ∃ A B, l.flatten = A ++ g ++ B ∧ A.length = 64 * i := by
  induction l with
  | nil => intro i g _ h; simp at h
  | cons x l ih =>
    intro i g hall h
    cases i with
    | zero =>
      have : x = g := by simpa using h
      exact ⟨[], l.flatten, by rw [← this]; simp, rfl⟩
    | succ i =>
      obtain ⟨A, B, e, hl⟩ := ih i g (fun y hy => hall y (by simp [hy])) (by simpa using h)
      exact ⟨x ++ A, B, by rw [List.flatten_cons, e]; simp, by rw [List.length_append, hl, hall x (by simp)]; omega⟩
theorem cut_mid (X g Y : List UInt8) (a : Nat) (hg : g.length = 64) (ha : a ≤ 64) : ((X ++ g ++ Y).take (X.length + 64)).drop (X.length + a) = g.drop a := by
  have e : (X ++ g ++ Y).take (X.length + 64) = X ++ g := by
    rw [show X.length + 64 = (X ++ g).length by simp [hg]]
    exact List.take_left
  rw [e, ← List.drop_drop, List.drop_left]
def pagesR (r : List UInt8) : List (List UInt8) := padP ([1] ++ putN 2 r.length ++ [0] ++ r.take 60) :: (chunksF 7 (r.drop 60)).map fun c => padP (2 :: c)
theorem recB_pages (r : List UInt8) : recB r = (pagesR r).flatten := rfl
theorem pagesR_all (r : List UInt8) : ∀ x ∈ pagesR r, x.length = 64 := by
  intro x hx
  rcases List.mem_cons.1 hx with rfl | hx
  · apply padP_len; simp [putN_len]; omega
  · obtain ⟨y, hy, rfl⟩ := List.mem_map.1 hx
    have := chunks_all _ _ y hy
    exact padP_len _ (by simp; omega)
theorem pagesR_len (r : List UInt8) (hr : r.length ≤ 400) : (pagesR r).length = pagesF r.length := by
  rw [← laidL_len r hr]; simp [pagesR, laidL]
theorem recB_len (r : List UInt8) (hr : r.length ≤ 400) : (recB r).length = 64 * pagesF r.length := by
  rw [recB_pages, ← pagesR_len r hr]
  have := pagesR_all r
  generalize pagesR r = l at *
  induction l with
  | nil => rfl
  | cons x l ih =>
    rw [List.flatten_cons, List.length_append, this x (by simp), ih (fun y hy => this y (by simp [hy])), List.length_cons]
    omega
theorem pages_pos (n : Nat) : 1 ≤ pagesF n := by unfold pagesF; split <;> omega
section
variable (r P Q : List UInt8) (p : Nat) (hr : r.length ≤ 400) (hP : P.length = 64 * p)
include hr hP
theorem page_at (i : Nat) (g : List UInt8) (hg : (pagesR r)[i]? = some g) : ∃ X Y, P ++ recB r ++ Q = X ++ g ++ Y ∧ X.length = 64 * (p + i) ∧ g.length = 64 := by
  obtain ⟨A, B, e, hl⟩ := page_cut _ i g (pagesR_all r) hg
  refine ⟨P ++ A, B ++ Q, by rw [recB_pages, e]; simp, by rw [List.length_append, hl, hP]; omega, pagesR_all r g (List.mem_of_getElem? hg)⟩
theorem page_byte (i a : Nat) (ha : a < 64) (g : List UInt8) (hg : (pagesR r)[i]? = some g) : byteAt (P ++ recB r ++ Q) (64 * (p + i) + a) = byteAt g a := by
  obtain ⟨X, Y, e, hX, hl⟩ := page_at r P Q p hr hP i g hg
  rw [e, ← hX]
  unfold byteAt
  rw [List.append_assoc, List.getD_eq_getElem?_getD, List.getElem?_append_right (by omega), Nat.add_sub_cancel_left, List.getElem?_append_left (by omega), ← List.getD_eq_getElem?_getD]
theorem page_rest (i a : Nat) (ha : a ≤ 64) (g : List UInt8) (hg : (pagesR r)[i]? = some g) : ((P ++ recB r ++ Q).take (64 * (p + i) + 64)).drop (64 * (p + i) + a) = g.drop a := by
  obtain ⟨X, Y, e, hX, hl⟩ := page_at r P Q p hr hP i g hg
  rw [e, ← hX]
  exact cut_mid X g Y a hl ha
theorem pagesR_at (j : Nat) (hj : j + 1 < pagesF r.length) : (pagesR r)[j + 1]? = some (padP (2 :: ((r.drop 60).drop (63 * j)).take 63)) := by
  unfold pagesR
  have h6 : 60 + 63 * j < r.length ∧ j < 7 := by unfold pagesF at hj; split at hj <;> omega
  rw [List.getElem?_cons_succ, List.getElem?_map, chunks_at 7 _ j h6.2 (by rw [List.length_drop]; omega)]
  rfl
theorem body_pre (j : Nat) (hj : j < pagesF r.length) : ∃ Z, bodyF (P ++ recB r ++ Q) p j = r.take (60 + 63 * j) ++ Z ∧ (60 + 63 * j ≤ r.length → Z = []) := by
  induction j with
  | zero =>
    have h := page_rest r P Q p hr hP 0 4 (by omega) _ rfl
    refine ⟨List.replicate (64 - ([1] ++ putN 2 r.length ++ [0] ++ r.take 60).length) 255, ?_, ?_⟩
    · simp only [Nat.add_zero] at h
      show ((P ++ recB r ++ Q).take (64 * p + 64)).drop (64 * p + 4) = _
      rw [h]
      unfold padP
      rw [show (4 : Nat) = ([1] ++ putN 2 r.length ++ [0]).length by simp [putN_len], List.append_assoc ([1] ++ putN 2 r.length ++ [0]), List.drop_left]
    · intro h6
      refine congrArg (fun n => List.replicate n (255 : UInt8)) (?_ : _ = 0)
      simp [putN_len]
      omega
  | succ j ih =>
    obtain ⟨Z, e, hz⟩ := ih (by omega)
    have h6 : 60 + 63 * j < r.length := by unfold pagesF at hj; split at hj <;> omega
    have hZ := hz (by omega)
    have h := page_rest r P Q p hr hP (j + 1) 1 (by omega) _ (pagesR_at r P p hr hP j hj)
    refine ⟨List.replicate (64 - (2 :: ((r.drop 60).drop (63 * j)).take 63).length) 255, ?_, ?_⟩
    · show bodyF _ p j ++ ((P ++ recB r ++ Q).take (64 * (p + (j + 1)) + 64)).drop (64 * (p + (j + 1)) + 1) = _
      rw [h, e, hZ, List.append_nil]
      unfold padP
      rw [List.cons_append, List.drop_succ_cons, List.drop_zero, ← List.append_assoc, List.drop_drop, show 60 + 63 * (j + 1) = (60 + 63 * j) + 63 by omega, show r.take (60 + 63 * j + 63) = r.take (60 + 63 * j) ++ (r.drop (60 + 63 * j)).take 63 from List.take_add]
    · intro h7
      refine congrArg (fun n => List.replicate n (255 : UInt8)) (?_ : _ = 0)
      simp
      omega
theorem record_reads (hlen : (P ++ recB r ++ Q).length = 512) (w : World) : Calls Tryz.prog 91 #[S (P ++ recB r ++ Q), I p] w fun e w' => e = .returned (.tuple #[S r, I (pagesF r.length)]) ∧ w' = w := by
  have hrl := recB_len r hr
  have hpp := pages_pos r.length
  have hsum : 64 * p + 64 * pagesF r.length ≤ 512 := by rw [List.length_append, List.length_append, hrl, hP] at hlen; omega
  have hb0 := page_byte r P Q p hr hP 0 0 (by omega) _ rfl
  have hb3 := page_byte r P Q p hr hP 0 3 (by omega) _ rfl
  have hr3 := page_rest r P Q p hr hP 0 1 (by omega) _ rfl
  simp only [Nat.add_zero] at hb0 hb3 hr3
  obtain ⟨x, y, hxy⟩ : ∃ x y, putN 2 r.length = [x, y] := by
    have := putN_len 2 r.length
    match h : putN 2 r.length, this with
    | [x, y], _ => exact ⟨x, y, rfl⟩
  refine record_some _ hlen p (by omega) r hr _ rfl (by omega) ?_ ?_ ?_ ?_ ?_ w
  · rw [hb0]; rfl
  · rw [hb3, hxy]; rfl
  · have e : ((P ++ recB r ++ Q).take (64 * p + 3)).drop (64 * p + 1) = (((P ++ recB r ++ Q).take (64 * p + 64)).drop (64 * p + 1)).take 2 := by
      rw [List.take_drop, List.take_take, Nat.min_eq_left (by omega)]
    rw [e, hr3, hxy]
    show getN [x, y] = _
    rw [← hxy]
    exact getN_put 2 _ (by have : (256 : Nat) ^ 2 = 65536 := by decide
                           omega)
  · intro i h1 h2
    obtain ⟨j, rfl⟩ : ∃ j, i = j + 1 := ⟨i - 1, by omega⟩
    have := page_byte r P Q p hr hP (j + 1) 0 (by omega) _ (pagesR_at r P p hr hP j h2)
    simp only [Nat.add_zero] at this
    rw [this]
    rfl
  · obtain ⟨Z, e, _⟩ := body_pre r P Q p hr hP (pagesF r.length - 1) (by omega)
    have hge : r.length ≤ 60 + 63 * (pagesF r.length - 1) := by unfold pagesF; split <;> omega
    rw [e, List.take_of_length_le hge, List.take_left]
end
end Go.Proofs.YtdkjlaldhohbmaaGreat
