/- Walks and lemmas on the program of this seat, used by its statements; each theorem bears its own conditions. -/
import Derived.Test.YtdkjlaldhohbmaaGreatOK
import Derived.Handy
import Derived.OwnWalk
import Derived.Deep.AppendLies
import Derived.IntWalk
import Derived.Deep.CutRange
import Derived.Deep.RegionHeld3
import Derived.Deep.RegionLaw
namespace Go.Proofs.YtdkjlaldhohbmaaGreat
open Go.RowKit
set_option linter.unusedVariables false
set_option linter.unusedSimpArgs false
set_option maxHeartbeats 8000000
set_option maxRecDepth 100000
/-! ### A segment's bytes, pure -/
def padP (s : List UInt8) : List UInt8 := s ++ List.replicate (64 - s.length) 255
theorem padP_len (s : List UInt8) (h : s.length ≤ 64) : (padP s).length = 64 := by unfold padP; simp; omega
def layB (b : List UInt8) (o : Nat) : List (List UInt8) → List UInt8
  | [] => b
  | s :: l => layB (progL b o s) (o + 64) l
theorem progL_len (bs s : List UInt8) (a : Nat) : (progL bs a s).length = bs.length := by unfold progL; rw [onL_len]
theorem layF_len (l : List (List UInt8)) : ∀ (f : Fl) (a : Nat), (layF f a l).bs.length = f.bs.length := by
  induction l with
  | nil => intro f a; rfl
  | cons s l ih => intro f a; show (layF _ _ l).bs.length = _; rw [ih]; exact progL_len _ _ _
theorem layF_block (k : Nat) (l : List (List UInt8)) : ∀ (f : Fl) (o : Nat), 512 * k + 512 ≤ f.bs.length → blockOf (layF f (512 * k + o) l).bs k = layB (blockOf f.bs k) o l := by
  induction l with
  | nil => intro f o h; rfl
  | cons s l ih =>
    intro f o h
    show blockOf (layF _ (512 * k + o + 64) l).bs k = layB (progL (blockOf f.bs k) o s) (o + 64) l
    rw [Nat.add_assoc, ih _ _ (by show _ ≤ (progL f.bs _ s).length; rw [progL_len]; exact h)]
    show layB (blockOf (progL f.bs (512 * k + o) s) k) _ l = _
    rw [prog_same h]
theorem layF_other (k j : Nat) (hn : j ≠ k) (l : List (List UInt8)) : ∀ (f : Fl) (o : Nat), 512 * j + 512 ≤ f.bs.length → (∀ s ∈ l, s.length ≤ 64) → o + 64 * l.length ≤ 512 → blockOf (layF f (512 * k + o) l).bs j = blockOf f.bs j := by
  induction l with
  | nil => intro f o h _ _; rfl
  | cons s l ih =>
    intro f o h hs ho
    have hs1 := hs s (by simp)
    rw [List.length_cons] at ho
    show blockOf (layF _ (512 * k + o + 64) l).bs j = _
    rw [Nat.add_assoc, ih _ _ (by show _ ≤ (progL f.bs _ s).length; rw [progL_len]; exact h) (fun x hx => hs x (by simp [hx])) (by omega)]
    exact prog_other h hn (by omega)
theorem layB_fill (l : List (List UInt8)) : ∀ (P : List UInt8) (m : Nat), (∀ s ∈ l, s.length ≤ 64) → 64 * l.length ≤ m → layB (P ++ List.replicate m 255) P.length l = P ++ (l.map padP).flatten ++ List.replicate (m - 64 * l.length) 255 := by
  induction l with
  | nil => intro P m _ _; simp [layB]
  | cons s l ih =>
    intro P m hs hm
    rw [List.length_cons] at hm
    have hs1 := hs s (by simp)
    show layB (progL (P ++ List.replicate m 255) P.length s) (P.length + 64) l = _
    rw [prog_fill P s m (by omega), show m - s.length = (64 - s.length) + (m - 64) by omega, ← List.replicate_append_replicate]
    have e : P ++ (s ++ (List.replicate (64 - s.length) 255 ++ List.replicate (m - 64) 255)) = (P ++ padP s) ++ List.replicate (m - 64) 255 := by unfold padP; simp only [List.append_assoc]
    have e2 : P.length + 64 = (P ++ padP s).length := by rw [List.length_append, padP_len s hs1]
    rw [e, e2, ih _ _ (fun x hx => hs x (by simp [hx])) (by omega), List.map_cons, List.flatten_cons, List.length_cons, show m - 64 - 64 * l.length = m - 64 * (l.length + 1) by omega]
    simp only [List.append_assoc]
/-- A record's bytes. -/
def recB (r : List UInt8) : List UInt8 := padP ([1] ++ putN 2 r.length ++ [0] ++ r.take 60) ++ ((chunksF 7 (r.drop 60)).map fun c => padP (2 :: c)).flatten
theorem appF_block (f : Fl) (k : Nat) (r P : List UInt8) (m : Nat) (hr : r.length ≤ 400) (h : 512 * k + 512 ≤ f.bs.length) (hb : blockOf f.bs k = P ++ List.replicate m 255) (hm : 64 * pagesF r.length ≤ m) :
    blockOf (appF f (512 * k + P.length) r).bs k = P ++ recB r ++ List.replicate (m - 64 * pagesF r.length) 255 := by
  show blockOf (progL (layF f (512 * k + P.length) (laidL r)).bs (512 * k + P.length + 3) [0]) k = _
  rw [Nat.add_assoc, prog_same (by rw [layF_len]; exact h), layF_block _ _ _ _ h, hb, layB_fill _ _ _ (fun s hs => (laidL_all r s hs).2) (by rw [laidL_len r hr]; exact hm), laidL_len r hr]
  generalize hR : List.replicate (m - 64 * pagesF r.length) (255 : UInt8) = R
  have e : ((laidL r).map padP).flatten = [1] ++ putN 2 r.length ++ 255 :: (r.take 60 ++ List.replicate (64 - (firstL r).length) 255 ++ ((chunksF 7 (r.drop 60)).map fun c => padP (2 :: c)).flatten) := by
    unfold laidL
    rw [List.map_cons, List.flatten_cons, List.map_map]
    show padP (firstL r) ++ _ = _
    unfold padP
    simp [firstL, Function.comp_def, padP]
  have e3 : P.length + 3 = (P ++ ([1] ++ putN 2 r.length)).length := by simp [putN_len]
  have e4 : (firstL r).length = ([1] ++ putN 2 r.length ++ [0] ++ r.take 60).length := by simp [firstL]
  have e5 : P ++ ((laidL r).map padP).flatten ++ R = (P ++ ([1] ++ putN 2 r.length)) ++ 255 :: (r.take 60 ++ List.replicate (64 - (firstL r).length) 255 ++ ((chunksF 7 (r.drop 60)).map fun c => padP (2 :: c)).flatten ++ R) := by
    rw [e]
    simp only [List.append_assoc, List.cons_append]
  rw [e5, e3, prog_one]
  unfold recB
  rw [e4]
  unfold padP
  simp only [List.append_assoc, List.cons_append, List.nil_append]
theorem appF_other (f : Fl) (k j o : Nat) (r : List UInt8) (hn : j ≠ k) (hr : r.length ≤ 400) (h : 512 * j + 512 ≤ f.bs.length) (ho : o + 64 * pagesF r.length ≤ 512) (hp : 1 ≤ pagesF r.length) : blockOf (appF f (512 * k + o) r).bs j = blockOf f.bs j := by
  show blockOf (progL (layF f (512 * k + o) (laidL r)).bs (512 * k + o + 3) [0]) j = _
  rw [Nat.add_assoc, prog_other (by rw [layF_len]; exact h) hn (by simp; omega)]
  exact layF_other k j hn _ _ _ h (fun s hs => (laidL_all r s hs).2) (by rw [laidL_len r hr]; exact ho)
end Go.Proofs.YtdkjlaldhohbmaaGreat
