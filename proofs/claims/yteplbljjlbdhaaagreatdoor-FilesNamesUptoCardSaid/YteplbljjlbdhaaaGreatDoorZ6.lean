/- Walks and lemmas on the program of this seat, used by its statements; each theorem bears its own conditions. -/
import Derived.Test.YteplbljjlbdhaaaGreatDoorZ5
import Derived.Shelf.SlicesQ.IndexFunc
import Derived.Laws.IdiomCopy
import Derived.RangeFuncFrom
import Derived.RangeFuncLeaves
import Derived.Shelf.Abstract
import Derived.OwnWalkIn
import Derived.TacticsInMore
import Derived.LoopNIn
import Derived.LoopIn
namespace Go.Proofs.YteplbljjlbdhaaaGreatDoor
open Go.RowKit
set_option linter.unusedVariables false
set_option linter.unusedSimpArgs false
set_option linter.unusedSectionVars false
set_option maxHeartbeats 16000000
set_option maxRecDepth 100000
theorem record_none (s : List UInt8) (hs : s.length = 512) (p : Nat) (hp : p < 8) (hx : byteAt s (64 * p) ≠ 1) (w : World) :
  Calls Tryz.prog 180 #[S s, I p] w fun e w' => e = .returned (.tuple #[S [], I 0]) ∧ w' = w := by
 obtain ⟨A, hA⟩ : ∃ A : Nat, 64 * p = A := ⟨_, rfl⟩
 have hAI : (p : Int) * 64 = A := by omega
 have hA8 : (A : Int) < 512 := by omega
 have hsI : (s.length : Int) = 512 := by omega
 rw [hA] at hx
 have hpI : (p : Int) ≤ 8 := by omega
 have hAlt : A < s.length := by omega
 have hn1 : ¬ (byteAt s A).toNat = 1 := fun h => hx (UInt8.toNat_inj.1 h)
 have hb : ¬ ((byteAt s A).toNat : Int) = 1 := by omega
 have hb2 : (((byteAt s A).toNat : Int) != 1) = true := by simpa using hb
 clear hA hx hp
 go_enter Tryz.func180, Tryz.ntmps180
 go_wp2_with (fail)
 go_ret2
 exact ⟨rfl, rfl⟩
def bodyF (s : List UInt8) (p : Nat) : Nat → List UInt8
 | 0 => (s.take (64 * p + 64)).drop (64 * p + 4)
 | k + 1 => bodyF s p k ++ (s.take (64 * (p + (k + 1)) + 64)).drop (64 * (p + (k + 1)) + 1)
theorem bodyF_len (s : List UInt8) (hs : s.length = 512) (p : Nat) : ∀ k, p + k < 8 → (bodyF s p k).length = 60 + 63 * k := by
 intro k
 induction k with
 | zero => intro h; simp only [bodyF, List.length_drop, List.length_take, hs]; omega
 | succ k ih => intro h; simp only [bodyF, List.length_append, List.length_drop, List.length_take, hs]; rw [ih (by omega)]; omega
theorem record_some (s : List UInt8) (hs : s.length = 512) (p : Nat) (hp8 : p < 8) (r : List UInt8) (hr : r.length ≤ 400) (pg : Nat) (hpg : pagesF r.length = pg) (hp : p + pg ≤ 8) (h1 : byteAt s (64 * p) = 1) (h3 : byteAt s (64 * p + 3) = 0)
  (hn : getN ((s.take (64 * p + 3)).drop (64 * p + 1)) = r.length) (hnext : ∀ i, 1 ≤ i → i < pg → byteAt s (64 * (p + i)) = 2) (hout : (bodyF s p (pg - 1)).take r.length = r) (w : World) :
  Calls Tryz.prog 180 #[S s, I p] w fun e w' => e = .returned (.tuple #[S r, I pg]) ∧ w' = w := by
 have hpg1 : 1 ≤ pg := by rw [← hpg]; unfold pagesF; split <;> omega
 have HG := Lib.hid (fun W => get_any W ((s.take (64 * p + 3)).drop (64 * p + 1)) (by intro h; have := congrArg List.length h; simp [List.length_drop, List.length_take, hs] at this; omega) (by simp [List.length_drop, List.length_take, hs]; omega))
 have HP := Lib.hid (fun W => pages_any r.length hr W)
 rw [hpg] at HP
 rw [hn] at HG
 obtain ⟨A, hA⟩ : ∃ A : Nat, 64 * p = A := ⟨_, rfl⟩
 have hAI : (p : Int) * 64 = A := by omega
 have hA8 : (A : Int) < 512 := by omega
 have hA4 : (A : Int) ≤ 448 := by omega
 have hsI : (s.length : Int) = 512 := by omega
 have HB := Lib.hid (bodyF_len s hs p)
 have hb0 : bodyF s p 0 = (s.take (A + 64)).drop (A + 4) := by rw [← hA]; rfl
 have HB0 := Lib.hid hb0
 rw [hA] at h1 h3 HG
 have hpI : (p : Int) ≤ 8 := by omega
 have hq1 : ((byteAt s A).toNat : Int) = 1 := by rw [h1]; rfl
 have hq1b : (((byteAt s A).toNat : Int) != 1) = false := by rw [h1]; rfl
 have hq3 : ((byteAt s (A + 3)).toNat : Int) = 0 := by rw [h3]; rfl
 have hq3b : (((byteAt s (A + 3)).toNat : Int) != 0) = false := by rw [h3]; rfl
 have hpgI : ((pg : Int) == 0) = false := by simp; omega
 have hpg0 : ¬ (pg : Int) = 0 := by omega
 have hppI : (p : Int) + pg ≤ 8 := by omega
 have hppb : decide ((8 : Int) < p + pg) = false := decide_eq_false (by omega)
 have hrI : (r.length : Int) ≤ 400 := by omega
 have hpgL : (1 : Int) ≤ pg := by omega
 have HN := Lib.hid hnext
 have HO := Lib.hid hout
 have HA := Lib.hid hA
 have HS := Lib.hid hs
 clear hA hp hn hnext hout hb0 h1 h3 hs hp8
 go_enter Tryz.func180, Tryz.ntmps180
 go_wp2_with (fail)
 refine (HG.out _).mono ?_
 rintro e w1 ⟨rfl, hw⟩
 replace hw := hw.symm
 subst hw
 go_wp2_with (fail)
 refine (HP.out _).mono ?_
 rintro e w1 ⟨rfl, hw⟩
 replace hw := hw.symm
 subst hw
 go_wp2_with (fail)
 go_loopw [6, 10, 11] (fun va vo vi wr => ∃ j : Nat, j + 1 ≤ pg ∧ va = I (64 * (p + j) : Nat) ∧ vo = S (bodyF s p j) ∧ vi = I (j + 1 : Nat) ∧ wr = w) (fun _ _ vi _ => pg - (intOf vi).toNat)
 case atStart => exact ⟨0, by omega, by rw [Nat.add_zero, HA.out], by rw [HB0.out], rfl, rfl⟩
 case round =>
  obtain ⟨j, hj, rfl, rfl, rfl, hw⟩ := hrel
  replace hw := hw.symm
  subst hw
  by_cases hlt : j + 1 < pg
  ·obtain ⟨C, hC⟩ : ∃ C : Nat, 64 * (p + j) = C := ⟨_, rfl⟩
   obtain ⟨D, hD⟩ : ∃ D : Nat, 64 * (p + (j + 1)) = D := ⟨_, rfl⟩
   have hCD : (C : Int) + 64 = D := by omega
   have hDI : (D : Int) ≤ 448 := by omega
   have hDI0 : (0 : Int) ≤ D := by omega
   have h2 := HN.out (j + 1) (by omega) hlt
   rw [hD] at h2
   have hq2 : ((byteAt s D).toNat : Int) = 2 := by rw [h2]; rfl
   have hq2b : (((byteAt s D).toNat : Int) != 2) = false := by rw [h2]; rfl
   have HBS : Hid (bodyF s p (j + 1) = bodyF s p j ++ (s.take (D + 64)).drop (D + 1)) := Lib.hid (by rw [← hD]; rfl)
   have hbl := HB.out j (by have := HO.out; omega)
   obtain ⟨X, hX⟩ : ∃ X, bodyF s p j = X := ⟨_, rfl⟩
   rw [hX] at hbl HBS
   have hXl : (X.length : Int) ≤ 600 := by omega
   have hltI : ((j + 1 : Nat) : Int) < pg := by omega
   have hres : ¬ 9223372036854775807 < X.length + ((s.take (D + 64)).drop (D + 1)).length := by
    rw [List.length_drop, List.length_take]; omega
   rw [hC, hX]
   obtain ⟨K, hK⟩ : ∃ K : Nat, j + 1 = K := ⟨_, rfl⟩
   rw [hK] at hltI
   have HK := Lib.hid (And.intro hK (And.intro hC (And.intro hD hX)))
   have hKI : (K : Int) ≤ 8 := by omega
   rw [hK]
   clear hC hD h2 hX hK hbl hlt
   go_wp2_with (fail)
   go_roundw
   case rel =>
    obtain ⟨q1, q2, q3, q4⟩ := HK.out
    exact ⟨K, by omega, by rw [← q1, q3], by rw [← q1, HBS.out], by go_num, trivial⟩
   case measure => simp [intOf]; omega
  ·have hje : j + 1 = pg := by omega
   have hbl := HB.out j (by omega)
   have hrl : r.length ≤ (bodyF s p j).length := by
    have := congrArg List.length HO.out
    rw [List.length_take, show pg - 1 = j by omega] at this
    omega
   have hout := HO.out
   rw [show pg - 1 = j by omega] at hout
   obtain ⟨X, hX⟩ : ∃ X, bodyF s p j = X := ⟨_, rfl⟩
   rw [hX] at hbl hrl hout ⊢
   have hXl : (r.length : Int) ≤ X.length := by omega
   have hXl2 : (X.length : Int) ≤ 600 := by omega
   obtain ⟨C, hC⟩ : ∃ C : Nat, 64 * (p + j) = C := ⟨_, rfl⟩
   rw [hC, hje]
   have HO2 := Lib.hid hout
   clear hout hX hC hje hbl
   go_wp2_with (fail)
   go_ret2
   exact ⟨by rw [HO2.out]; rfl, rfl⟩
def padP (s : List UInt8) : List UInt8 := s ++ List.replicate (64 - s.length) 255
theorem padP_len (s : List UInt8) (h : s.length ≤ 64) : (padP s).length = 64 := by unfold padP; simp; omega
def layB (b : List UInt8) (o : Nat) : List (List UInt8) → List UInt8
 | [] => b
 | s :: l => layB (progL b o s) (o + 64) l
theorem progL_len (bs s : List UInt8) (a : Nat) : (progL bs a s).length = bs.length := by unfold progL; rw [onL_len]
theorem layF_len (l : List (List UInt8)) : ∀ (f : Fl) (a : Nat), (layF f a l).bs.length = f.bs.length := by
 induction l with
 | nil => intro f a; rfl
 | cons s l ih => intro f a; show (layF _ _ l).bs.length = _; rw [ih]; exact progL_len _ _ _
theorem layF_block (k : Nat) (l : List (List UInt8)) : ∀ (f : Fl) (o : Nat), 512 * k + 512 ≤ f.bs.length → blockOf (layF f (512 * k + o) l).bs k = layB (blockOf f.bs k) o l := by
 induction l with
 | nil => intro f o h; rfl
 | cons s l ih =>
  intro f o h
  show blockOf (layF _ (512 * k + o + 64) l).bs k = layB (progL (blockOf f.bs k) o s) (o + 64) l
  rw [Nat.add_assoc, ih _ _ (by show _ ≤ (progL f.bs _ s).length; rw [progL_len]; exact h)]
  show layB (blockOf (progL f.bs (512 * k + o) s) k) _ l = _
  rw [prog_same h]
theorem layF_other (k j : Nat) (hn : j ≠ k) (l : List (List UInt8)) : ∀ (f : Fl) (o : Nat), 512 * j + 512 ≤ f.bs.length → (∀ s ∈ l, s.length ≤ 64) → o + 64 * l.length ≤ 512 → blockOf (layF f (512 * k + o) l).bs j = blockOf f.bs j := by
 induction l with
 | nil => intro f o h _ _; rfl
 | cons s l ih =>
  intro f o h hs ho
  have hs1 := hs s (by simp)
  rw [List.length_cons] at ho
  show blockOf (layF _ (512 * k + o + 64) l).bs j = _
  rw [Nat.add_assoc, ih _ _ (by show _ ≤ (progL f.bs _ s).length; rw [progL_len]; exact h) (fun x hx => hs x (by simp [hx])) (by omega)]
  exact prog_other h hn (by omega)
theorem layB_fill (l : List (List UInt8)) : ∀ (P : List UInt8) (m : Nat), (∀ s ∈ l, s.length ≤ 64) → 64 * l.length ≤ m → layB (P ++ List.replicate m 255) P.length l = P ++ (l.map padP).flatten ++ List.replicate (m - 64 * l.length) 255 := by
 induction l with
 | nil => intro P m _ _; simp [layB]
 | cons s l ih =>
  intro P m hs hm
  rw [List.length_cons] at hm
  have hs1 := hs s (by simp)
  show layB (progL (P ++ List.replicate m 255) P.length s) (P.length + 64) l = _
  rw [prog_fill P s m (by omega), show m - s.length = (64 - s.length) + (m - 64) by omega, ← List.replicate_append_replicate]
  have e : P ++ (s ++ (List.replicate (64 - s.length) 255 ++ List.replicate (m - 64) 255)) = (P ++ padP s) ++ List.replicate (m - 64) 255 := by unfold padP; simp only [List.append_assoc]
  have e2 : P.length + 64 = (P ++ padP s).length := by rw [List.length_append, padP_len s hs1]
  rw [e, e2, ih _ _ (fun x hx => hs x (by simp [hx])) (by omega), List.map_cons, List.flatten_cons, List.length_cons, show m - 64 - 64 * l.length = m - 64 * (l.length + 1) by omega]
  simp only [List.append_assoc]
def recB (r : List UInt8) : List UInt8 := padP ([1] ++ putN 2 r.length ++ [0] ++ r.take 60) ++ ((chunksF 7 (r.drop 60)).map fun c => padP (2 :: c)).flatten
theorem appF_block (f : Fl) (k : Nat) (r P : List UInt8) (m : Nat) (hr : r.length ≤ 400) (h : 512 * k + 512 ≤ f.bs.length) (hb : blockOf f.bs k = P ++ List.replicate m 255) (hm : 64 * pagesF r.length ≤ m) :
  blockOf (appF f (512 * k + P.length) r).bs k = P ++ recB r ++ List.replicate (m - 64 * pagesF r.length) 255 := by
 show blockOf (progL (layF f (512 * k + P.length) (laidL r)).bs (512 * k + P.length + 3) [0]) k = _
 rw [Nat.add_assoc, prog_same (by rw [layF_len]; exact h), layF_block _ _ _ _ h, hb, layB_fill _ _ _ (fun s hs => (laidL_all r s hs).2) (by rw [laidL_len r hr]; exact hm), laidL_len r hr]
 generalize hR : List.replicate (m - 64 * pagesF r.length) (255 : UInt8) = R
 have e : ((laidL r).map padP).flatten = [1] ++ putN 2 r.length ++ 255 :: (r.take 60 ++ List.replicate (64 - (firstL r).length) 255 ++ ((chunksF 7 (r.drop 60)).map fun c => padP (2 :: c)).flatten) := by
  unfold laidL
  rw [List.map_cons, List.flatten_cons, List.map_map]
  show padP (firstL r) ++ _ = _
  unfold padP
  simp [firstL, Function.comp_def, padP]
 have e3 : P.length + 3 = (P ++ ([1] ++ putN 2 r.length)).length := by simp [putN_len]
 have e4 : (firstL r).length = ([1] ++ putN 2 r.length ++ [0] ++ r.take 60).length := by simp [firstL]
 have e5 : P ++ ((laidL r).map padP).flatten ++ R = (P ++ ([1] ++ putN 2 r.length)) ++ 255 :: (r.take 60 ++ List.replicate (64 - (firstL r).length) 255 ++ ((chunksF 7 (r.drop 60)).map fun c => padP (2 :: c)).flatten ++ R) := by
  rw [e]
  simp only [List.append_assoc, List.cons_append]
 rw [e5, e3, prog_one]
 unfold recB
 rw [e4]
 unfold padP
 simp only [List.append_assoc, List.cons_append, List.nil_append]
theorem appF_other (f : Fl) (k j o : Nat) (r : List UInt8) (hn : j ≠ k) (hr : r.length ≤ 400) (h : 512 * j + 512 ≤ f.bs.length) (ho : o + 64 * pagesF r.length ≤ 512) (hp : 1 ≤ pagesF r.length) : blockOf (appF f (512 * k + o) r).bs j = blockOf f.bs j := by
 show blockOf (progL (layF f (512 * k + o) (laidL r)).bs (512 * k + o + 3) [0]) j = _
 rw [Nat.add_assoc, prog_other (by rw [layF_len]; exact h) hn (by simp; omega)]
 exact layF_other k j hn _ _ _ h (fun s hs => (laidL_all r s hs).2) (by rw [laidL_len r hr]; exact ho)
theorem chunks_at (k : Nat) : ∀ (x : List UInt8) (i : Nat), i < k → 63 * i < x.length → (chunksF k x)[i]? = some ((x.drop (63 * i)).take 63) := by
 induction k with
 | zero => intro x i hi; omega
 | succ k ih =>
  intro x i hi hx
  have hne : x ≠ [] := by intro h; subst h; simp at hx
  show (if x = [] then [] else x.take 63 :: chunksF k (x.drop 63))[i]? = _
  rw [if_neg hne]
  cases i with
  | zero => simp
  | succ i =>
   rw [List.getElem?_cons_succ, ih _ i (by omega) (by rw [List.length_drop]; omega), List.drop_drop, show 63 + 63 * i = 63 * (i + 1) by omega]
theorem page_cut (l : List (List UInt8)) : ∀ (i : Nat) (g : List UInt8), (∀ x ∈ l, x.length = 64) → l[i]? = some g → ∃ A B, l.flatten = A ++ g ++ B ∧ A.length = 64 * i := by
 induction l with
 | nil => intro i g _ h; simp at h
 | cons x l ih =>
  intro i g hall h
  cases i with
  | zero =>
   have : x = g := by simpa using h
   exact ⟨[], l.flatten, by rw [← this]; simp, rfl⟩
  | succ i =>
   obtain ⟨A, B, e, hl⟩ := ih i g (fun y hy => hall y (by simp [hy])) (by simpa using h)
   exact ⟨x ++ A, B, by rw [List.flatten_cons, e]; simp, by rw [List.length_append, hl, hall x (by simp)]; omega⟩
theorem cut_mid (X g Y : List UInt8) (a : Nat) (hg : g.length = 64) (ha : a ≤ 64) : ((X ++ g ++ Y).take (X.length + 64)).drop (X.length + a) = g.drop a := by
 have e : (X ++ g ++ Y).take (X.length + 64) = X ++ g := by
  rw [show X.length + 64 = (X ++ g).length by simp [hg]]
  exact List.take_left
 rw [e, ← List.drop_drop, List.drop_left]
def pagesR (r : List UInt8) : List (List UInt8) := padP ([1] ++ putN 2 r.length ++ [0] ++ r.take 60) :: (chunksF 7 (r.drop 60)).map fun c => padP (2 :: c)
theorem recB_pages (r : List UInt8) : recB r = (pagesR r).flatten := rfl
theorem pagesR_all (r : List UInt8) : ∀ x ∈ pagesR r, x.length = 64 := by
 intro x hx
 rcases List.mem_cons.1 hx with rfl | hx
 ·apply padP_len; simp [putN_len]; omega
 ·obtain ⟨y, hy, rfl⟩ := List.mem_map.1 hx
  have := chunks_all _ _ y hy
  exact padP_len _ (by simp; omega)
theorem pagesR_len (r : List UInt8) (hr : r.length ≤ 400) : (pagesR r).length = pagesF r.length := by
 rw [← laidL_len r hr]; simp [pagesR, laidL]
theorem recB_len (r : List UInt8) (hr : r.length ≤ 400) : (recB r).length = 64 * pagesF r.length := by
 rw [recB_pages, ← pagesR_len r hr]
 have := pagesR_all r
 generalize pagesR r = l at *
 induction l with
 | nil => rfl
 | cons x l ih =>
  rw [List.flatten_cons, List.length_append, this x (by simp), ih (fun y hy => this y (by simp [hy])), List.length_cons]
  omega
theorem pages_pos (n : Nat) : 1 ≤ pagesF n := by unfold pagesF; split <;> omega
section
variable (r P Q : List UInt8) (p : Nat) (hr : r.length ≤ 400) (hP : P.length = 64 * p)
include hr hP
theorem page_at (i : Nat) (g : List UInt8) (hg : (pagesR r)[i]? = some g) : ∃ X Y, P ++ recB r ++ Q = X ++ g ++ Y ∧ X.length = 64 * (p + i) ∧ g.length = 64 := by
 obtain ⟨A, B, e, hl⟩ := page_cut _ i g (pagesR_all r) hg
 refine ⟨P ++ A, B ++ Q, by rw [recB_pages, e]; simp, by rw [List.length_append, hl, hP]; omega, pagesR_all r g (List.mem_of_getElem? hg)⟩
theorem page_byte (i a : Nat) (ha : a < 64) (g : List UInt8) (hg : (pagesR r)[i]? = some g) : byteAt (P ++ recB r ++ Q) (64 * (p + i) + a) = byteAt g a := by
 obtain ⟨X, Y, e, hX, hl⟩ := page_at r P Q p hr hP i g hg
 rw [e, ← hX]
 unfold byteAt
 rw [List.append_assoc, List.getD_eq_getElem?_getD, List.getElem?_append_right (by omega), Nat.add_sub_cancel_left, List.getElem?_append_left (by omega), ← List.getD_eq_getElem?_getD]
theorem page_rest (i a : Nat) (ha : a ≤ 64) (g : List UInt8) (hg : (pagesR r)[i]? = some g) : ((P ++ recB r ++ Q).take (64 * (p + i) + 64)).drop (64 * (p + i) + a) = g.drop a := by
 obtain ⟨X, Y, e, hX, hl⟩ := page_at r P Q p hr hP i g hg
 rw [e, ← hX]
 exact cut_mid X g Y a hl ha
theorem pagesR_at (j : Nat) (hj : j + 1 < pagesF r.length) : (pagesR r)[j + 1]? = some (padP (2 :: ((r.drop 60).drop (63 * j)).take 63)) := by
 unfold pagesR
 have h6 : 60 + 63 * j < r.length ∧ j < 7 := by unfold pagesF at hj; split at hj <;> omega
 rw [List.getElem?_cons_succ, List.getElem?_map, chunks_at 7 _ j h6.2 (by rw [List.length_drop]; omega)]
 rfl
theorem body_pre (j : Nat) (hj : j < pagesF r.length) : ∃ Z, bodyF (P ++ recB r ++ Q) p j = r.take (60 + 63 * j) ++ Z ∧ (60 + 63 * j ≤ r.length → Z = []) := by
 induction j with
 | zero =>
  have h := page_rest r P Q p hr hP 0 4 (by omega) _ rfl
  refine ⟨List.replicate (64 - ([1] ++ putN 2 r.length ++ [0] ++ r.take 60).length) 255, ?_, ?_⟩
  ·simp only [Nat.add_zero] at h
   show ((P ++ recB r ++ Q).take (64 * p + 64)).drop (64 * p + 4) = _
   rw [h]
   unfold padP
   rw [show (4 : Nat) = ([1] ++ putN 2 r.length ++ [0]).length by simp [putN_len], List.append_assoc ([1] ++ putN 2 r.length ++ [0]), List.drop_left]
  ·intro h6
   refine congrArg (fun n => List.replicate n (255 : UInt8)) (?_ : _ = 0)
   simp [putN_len]
   omega
 | succ j ih =>
  obtain ⟨Z, e, hz⟩ := ih (by omega)
  have h6 : 60 + 63 * j < r.length := by unfold pagesF at hj; split at hj <;> omega
  have hZ := hz (by omega)
  have h := page_rest r P Q p hr hP (j + 1) 1 (by omega) _ (pagesR_at r P p hr hP j hj)
  refine ⟨List.replicate (64 - (2 :: ((r.drop 60).drop (63 * j)).take 63).length) 255, ?_, ?_⟩
  ·show bodyF _ p j ++ ((P ++ recB r ++ Q).take (64 * (p + (j + 1)) + 64)).drop (64 * (p + (j + 1)) + 1) = _
   rw [h, e, hZ, List.append_nil]
   unfold padP
   rw [List.cons_append, List.drop_succ_cons, List.drop_zero, ← List.append_assoc, List.drop_drop, show 60 + 63 * (j + 1) = (60 + 63 * j) + 63 by omega, show r.take (60 + 63 * j + 63) = r.take (60 + 63 * j) ++ (r.drop (60 + 63 * j)).take 63 from List.take_add]
  ·intro h7
   refine congrArg (fun n => List.replicate n (255 : UInt8)) (?_ : _ = 0)
   simp
   omega
theorem record_reads (hlen : (P ++ recB r ++ Q).length = 512) (w : World) : Calls Tryz.prog 180 #[S (P ++ recB r ++ Q), I p] w fun e w' => e = .returned (.tuple #[S r, I (pagesF r.length)]) ∧ w' = w := by
  have hrl := recB_len r hr
  have hpp := pages_pos r.length
  have hsum : 64 * p + 64 * pagesF r.length ≤ 512 := by rw [List.length_append, List.length_append, hrl, hP] at hlen; omega
  have hb0 := page_byte r P Q p hr hP 0 0 (by omega) _ rfl
  have hb3 := page_byte r P Q p hr hP 0 3 (by omega) _ rfl
  have hr3 := page_rest r P Q p hr hP 0 1 (by omega) _ rfl
  simp only [Nat.add_zero] at hb0 hb3 hr3
  obtain ⟨x, y, hxy⟩ : ∃ x y, putN 2 r.length = [x, y] := by
    have := putN_len 2 r.length
    match h : putN 2 r.length, this with
    | [x, y], _ => exact ⟨x, y, rfl⟩
  refine record_some _ hlen p (by omega) r hr _ rfl (by omega) ?_ ?_ ?_ ?_ ?_ w
  · rw [hb0]; rfl
  · rw [hb3, hxy]; rfl
  · have e : ((P ++ recB r ++ Q).take (64 * p + 3)).drop (64 * p + 1) = (((P ++ recB r ++ Q).take (64 * p + 64)).drop (64 * p + 1)).take 2 := by
      rw [List.take_drop, List.take_take, Nat.min_eq_left (by omega)]
    rw [e, hr3, hxy]
    show getN [x, y] = _
    rw [← hxy]
    exact getN_put 2 _ (by have : (256 : Nat) ^ 2 = 65536 := by decide
                           omega)
  · intro i h1 h2
    obtain ⟨j, rfl⟩ : ∃ j, i = j + 1 := ⟨i - 1, by omega⟩
    have := page_byte r P Q p hr hP (j + 1) 0 (by omega) _ (pagesR_at r P p hr hP j h2)
    simp only [Nat.add_zero] at this
    rw [this]
    rfl
  · obtain ⟨Z, e, _⟩ := body_pre r P Q p hr hP (pagesF r.length - 1) (by omega)
    have hge : r.length ≤ 60 + 63 * (pagesF r.length - 1) := by unfold pagesF; split <;> omega
    rw [e, List.take_of_length_le hge, List.take_left]
end
theorem pageOf_free (P : List UInt8) (m q : Nat) (hP : P.length + 64 * m = 512) (h1 : 8 - m ≤ q) (h2 : q ≤ 7) : allB (pageOf (P ++ List.replicate (64 * m) 255) q) = true := by
 unfold pageOf
 rw [List.drop_append, List.drop_of_length_le (by omega), List.nil_append, List.drop_replicate, List.take_replicate]
 unfold allB
 simp
theorem roomF_go (P : List UInt8) (m : Nat) (hP : P.length + 64 * m = 512) (hm : m ≤ 7) (hl : m < 7 → allB (pageOf (P ++ List.replicate (64 * m) 255) (7 - m)) = false) (j : Nat) (hj : j ≤ m) : roomF (P ++ List.replicate (64 * m) 255) (7 - m + j) = j := by
 induction j with
 | zero =>
  by_cases h : m = 7
  ·subst h; rfl
  ·obtain ⟨q, hq⟩ : ∃ q, 7 - m = q + 1 := ⟨6 - m, by omega⟩
   have h1 := hl (by omega)
   rw [Nat.add_zero, hq]
   rw [hq] at h1
   show (if allB (pageOf _ (q + 1)) = true then roomF _ q + 1 else 0) = 0
   rw [if_neg (by rw [h1]; decide)]
 | succ j ih =>
  show (if allB (pageOf _ (7 - m + j + 1)) = true then roomF _ (7 - m + j) + 1 else 0) = _
  rw [if_pos (pageOf_free P m _ hP (by omega) (by omega)), ih (by omega)]
theorem roomF_is (P : List UInt8) (m : Nat) (hP : P.length + 64 * m = 512) (hm : m ≤ 7) (hl : m < 7 → allB (pageOf (P ++ List.replicate (64 * m) 255) (7 - m)) = false) : roomF (P ++ List.replicate (64 * m) 255) 7 = m := by
 have := roomF_go P m hP hm hl m (Nat.le_refl _)
 rw [show 7 - m + m = 7 by omega] at this
 exact this
theorem pagesR_head (r : List UInt8) (i : Nat) (g : List UInt8) (h : (pagesR r)[i]? = some g) : byteAt g 0 ≠ 255 := by
 unfold pagesR at h
 cases i with
 | zero =>
  have : padP ([1] ++ putN 2 r.length ++ [0] ++ r.take 60) = g := by simpa using h
  rw [← this]
  show (1 : UInt8) ≠ 255
  decide
 | succ i =>
  rw [List.getElem?_cons_succ, List.getElem?_map] at h
  cases hc : (chunksF 7 (r.drop 60))[i]? with
  | none => rw [hc] at h; cases h
  | some c =>
   rw [hc] at h
   have : padP (2 :: c) = g := Option.some.inj h
   rw [← this]
   show (2 : UInt8) ≠ 255
   decide
theorem allB_not (l : List UInt8) (h : l ≠ []) (h2 : byteAt l 0 ≠ 255) : allB l = false := by
 cases l with
 | nil => exact absurd rfl h
 | cons c l =>
  have h3 : c ≠ 255 := h2
  unfold allB
  simp [h3]
theorem room_rec (P r : List UInt8) (p m : Nat) (hr : r.length ≤ 400) (hP : P.length = 64 * p) (hm : p + pagesF r.length + m = 8) (hp : 1 ≤ p) : roomF (P ++ recB r ++ List.replicate (64 * m) 255) 7 = m := by
 have hpp := pages_pos r.length
 have hrl := recB_len r hr
 refine roomF_is (P ++ recB r) m (by rw [List.length_append, hrl, hP]; omega) (by omega) fun _ => ?_
 obtain ⟨g, hg⟩ : ∃ g, (pagesR r)[pagesF r.length - 1]? = some g := ⟨_, List.getElem?_eq_getElem (by rw [pagesR_len r hr]; omega)⟩
 obtain ⟨X, Y, e, hX, hl⟩ := page_at r P (List.replicate (64 * m) 255) p hr hP _ g hg
 have e2 : pageOf (P ++ recB r ++ List.replicate (64 * m) 255) (7 - m) = g := by
  unfold pageOf
  rw [e, show 64 * (7 - m) = X.length by rw [hX]; omega, List.append_assoc, List.drop_left, show (64 : Nat) = g.length from hl.symm, List.take_left]
 rw [e2]
 exact allB_not g (by intro h; rw [h] at hl; cases hl) (pagesR_head r _ g hg)
theorem room_head (num : Nat) : roomF (headL num ++ List.replicate 448 255) 7 = 7 :=
 roomF_is (headL num) 7 (by rw [headL_len]) (by omega) (fun h => by omega)
def usedF : List (List UInt8) → Nat
 | [] => 0
 | r :: rs => pagesF r.length + usedF rs
def segP (num : Nat) (rs : List (List UInt8)) : List UInt8 := headL num ++ (rs.map recB).flatten
def segB (num : Nat) (rs : List (List UInt8)) : List UInt8 := segP num rs ++ List.replicate (64 * (7 - usedF rs)) 255
theorem seg_made (f : Fl) (fs k num : Nat) (h : 512 * (fs + k) + 512 ≤ f.bs.length) (hb : blockOf f.bs (fs + k) = fullB) : blockOf (madeF f fs k num).bs (fs + k) = segB num [] := by
 show blockOf (progL (progL f.bs (512 * fs + k * 512) (83 :: putN 6 num)) (512 * fs + (k * 512 + 7)) [0]) (fs + k) = _
 rw [show 512 * fs + (k * 512 + 7) = 512 * (fs + k) + 7 by omega, show 512 * fs + k * 512 = 512 * (fs + k) + 0 by omega, prog_same (by rw [progL_len]; exact h), prog_same h, hb, made_block]
 unfold segB segP
 simp [usedF]
theorem seg_made_other (f : Fl) (fs k num j : Nat) (hn : j ≠ fs + k) (h : 512 * j + 512 ≤ f.bs.length) : blockOf (madeF f fs k num).bs j = blockOf f.bs j := by
 show blockOf (progL (progL f.bs (512 * fs + k * 512) (83 :: putN 6 num)) (512 * fs + (k * 512 + 7)) [0]) j = _
 rw [show 512 * fs + (k * 512 + 7) = 512 * (fs + k) + 7 by omega, show 512 * fs + k * 512 = 512 * (fs + k) + 0 by omega, prog_other (by rw [progL_len]; exact h) hn (by simp), prog_other h hn (by simp [putN_len])]
theorem recp_any (W : World) (b num t : Int) (g : Nat) (hg : W.cell? ⟨g, 0, none⟩ = some (I t)) :
  Calls Tryz.prog 179 #[.agg #[I b, I num], Ptr g] W fun e w' => e = .returned (.bool (num == t)) ∧ w' = W.alloc (.cells #[I b, I num] 207) := by
 have hlt := World.block_lt_of_cell? W _ hg
 have hg2 : (W.alloc (Obj.cells #[I b, I num] 207)).cell? ⟨g, 0, none⟩ = some (I t) :=
  (((Kept.refl [] W).alloc _).cell hlt (by simp)).trans hg
 have hnw := heap_new W (Obj.cells #[I b, I num] 207)
 have e1 := cell_at hnw 1
 simp only [List.getElem?_toArray, List.getElem?_cons_zero, List.getElem?_cons_succ] at e1
 clear hnw hlt
 go_enter Tryz.func179, Tryz.ntmps179
 go_wp2_with (fail)
 go_ret
 exact ⟨rfl, rfl⟩
theorem Kept.cellOf {w w' : World} (k : Kept [] w w') {p : Addr} {v : Value} (h : w.cell? p = some v) : w'.cell? p = some v := (k.cell (World.block_lt_of_cell? w _ h) (by simp)).trans h
theorem ixf_any (w : World) (segs : List Sg) (g c q k : Nat) (t : Int) (hs : segs.length ≤ 1000) (hk : k < segs.length)
  (hc : ∀ (i : Nat) (hi : i < segs.length), w.cell? ⟨g, i * 2, none⟩ = some (I segs[i].1) ∧ w.cell? ⟨g, i * 2 + 1, none⟩ = some (I segs[i].2))
  (ht : ((segs[k].2 : Int) == t) = true) (hn : ∀ (j : Nat) (hj : j < k), ((segs[j].2 : Int) == t) = false) (hq : w.cell? ⟨q, 0, none⟩ = some (I t)) :
  Calls Tryz.prog 178 #[.slice (some ⟨g, 0, none⟩) segs.length c, .func (.func 179) #[] #[Ptr q]] w fun e w' => e = .returned (I k) ∧ Kept [] w w' := by
 have hsI : (segs.length : Int) ≤ 1000 := by omega
 have HC := Lib.hid (And.intro hc (And.intro ht (And.intro hn hq)))
 clear hc ht hn hq
 go_enter Tryz.func178, Tryz.ntmps178
 go_wp2_with (fail)
 go_loopw [5, 8] (fun _ vi wr => ∃ j : Nat, j ≤ k ∧ vi = I j ∧ Kept [] w wr) (fun _ vi _ => segs.length - (intOf vi).toNat)
 case atStart => exact ⟨0, by omega, rfl, Kept.refl _ _⟩
 case round =>
  obtain ⟨j, hj, rfl, kr⟩ := hrel
  obtain ⟨hc, ht, hn, hq⟩ := HC.out
  have hjl : j < segs.length := by omega
  have hjI : (j : Int) < segs.length := by omega
  have hjI0 : (0 : Int) ≤ j := by omega
  obtain ⟨a0, a1⟩ := hc j hjl
  have e0 := kr.cellOf a0
  have e1 := kr.cellOf a1
  have hqr := kr.cellOf hq
  have HP := Lib.hid (fun b num => recp_any wr b num t q hqr)
  have HR := Lib.hid kr
  clear hc ht hn hq a0 a1 hqr kr
  go_wp2_with (fail)
  refine (HP.out _ _).mono ?_
  rintro e w2 ⟨rfl, rfl⟩
  clear e0 e1
  have k2 := HR.out.alloc (Obj.cells #[I segs[j].1, I segs[j].2] 207)
  generalize wr.alloc (Obj.cells #[I segs[j].1, I segs[j].2] 207) = w2 at k2 ⊢
  by_cases hjk : j = k
  ·subst hjk
   have ht := HC.out.2.1
   rw [ht]
   clear ht
   go_wp2_with (fail)
   go_ret
   exact ⟨rfl, k2⟩
  ·have hn := HC.out.2.2.1 j (by omega)
   rw [hn]
   clear hn
   go_wp2_with (fail)
   go_roundw
   case rel => exact ⟨j + 1, by omega, by go_num, k2⟩
   case measure => simp [intOf]; omega
theorem setCells_row (g : Nat) (t : TypeId) : ∀ (vs : List Value) (o : Nat) (cur : Array Value) (w : World), w.heap[g]? = some (.cells cur t (0, 0)) → o + vs.length ≤ cur.size →
  ∃ cur', (w.setCells g o vs).heap[g]? = some (.cells cur' t (0, 0)) ∧ cur'.size = cur.size ∧ (∀ i, cur'[i]? = if o ≤ i ∧ i < o + vs.length then vs[i - o]? else cur[i]?) ∧ Kept [g] w (w.setCells g o vs) := by
 intro vs
 induction vs with
 | nil => intro o cur w h _; exact ⟨cur, h, rfl, fun i => by rw [if_neg (by simp)], Kept.refl _ _⟩
 | cons v r ih =>
  intro o cur w h hl
  rw [List.length_cons] at hl
  obtain ⟨cur', h1, h2, h3, h4⟩ := ih (o + 1) (cur.setIfInBounds o v) (w.setCell ⟨g, o, none⟩ v) (heap_setCell_at h o v) (by rw [Array.size_setIfInBounds]; omega)
  refine ⟨cur', h1, by rw [h2, Array.size_setIfInBounds], fun i => ?_, ((Kept.refl [g] w).setCell (.inl (by simp)) v).trans' h4⟩
  rw [h3 i, List.length_cons]
  by_cases hi : o + 1 ≤ i ∧ i < o + 1 + r.length
  ·rw [if_pos hi, if_pos (by omega), show i - o = (i - (o + 1)) + 1 by omega, List.getElem?_cons_succ]
  ·rw [if_neg hi]
   by_cases ho : i = o
   ·subst ho
    rw [if_pos (by omega), Nat.sub_self, List.getElem?_cons_zero, Array.getElem?_setIfInBounds_self_of_lt (by omega)]
   ·rw [if_neg (by omega), Array.getElem?_setIfInBounds_ne (Ne.symm ho)]
theorem clear_seg (w : World) (ty : TypeId) (b o : Nat) (c : Nat) (hc : ∀ j, j < 2 → (w.cell? ⟨b, o + j, none⟩).isSome = true) (hf : ∀ j, j < 2 → w.frozen? ⟨b, o + j, none⟩ = false) :
  (Builtin.clear_ #[168] ty #[.slice (some ⟨b, o, none⟩) 1 c]).run Tryz.prog w = .ok (.tuple #[]) (w.setCells b o [I 0, I 0]) := by
 have hv : ∀ w, (zeroValue 207).run Tryz.prog w = .ok (.agg #[I 0, I 0]) w := fun w => by kernel_rfl
 have hst := run_storeCells_cells (P := Tryz.prog) b o [I 0, I 0] 0 w (by simpa using hc) (by simpa using hf) (by intro v hv'; simp at hv'; subst hv'; rfl)
 simp only [Nat.add_zero] at hst
 have hz : (Builtin.zeroCells (Value.agg #[I 0, I 0]).cells 1).toList = [I 0, I 0] := by simp [Builtin.zeroCells, Value.cells]; rfl
 simp [Builtin.clear_, run_underlying Tryz.underlying168, hv, hz, hst]
theorem segCells_cons (s : Sg) (l : List Sg) : segCells (s :: l) = I s.1 :: I s.2 :: segCells l := rfl
theorem segCells_one (l : List Sg) : ∀ u ∈ segCells l, u.oneCell' = true := by
 intro u hu
 obtain ⟨s, _, hs⟩ := List.mem_flatMap.1 hu
 simp at hs
 rcases hs with rfl | rfl <;> rfl
theorem sdelete_any (w : World) (s0 : Sg) (tl : List Sg) (g c : Nat) (cur : Array Value) (hg : w.heap[g]? = some (.cells cur 207 (0, 0))) (hcap : tl.length + 1 ≤ c) (hcm : c ≤ maxLen) (hsz : cur.size = c * 2)
  (htk : cur.toList.take ((tl.length + 1) * 2) = segCells (s0 :: tl)) (h1 : 1 ≤ tl.length) (hs : tl.length ≤ 1000) :
  Calls Tryz.prog 204 #[.slice (some ⟨g, 0, none⟩) (tl.length + 1) c, I 0, I 1] w fun e w' => e = .returned (.slice (some ⟨g, 0, none⟩) tl.length c) ∧
   (∃ cur', w'.heap[g]? = some (.cells cur' 207 (0, 0)) ∧ cur'.size = c * 2 ∧ cur'.toList.take (tl.length * 2) = segCells tl) ∧ Kept [g] w w' := by
 obtain ⟨k, hk⟩ : ∃ k, tl.length = k := ⟨_, rfl⟩
 obtain ⟨news, hnews⟩ : ∃ news, segCells tl = news := ⟨_, rfl⟩
 have hnl : news.length = k * 2 := by rw [← hnews, segCells_len, hk]
 have hcell : ∀ i, i < (k + 1) * 2 → cur[i]? = (I s0.1 :: I s0.2 :: news)[i]? := by
  intro i hi
  have := congrArg (fun l => l[i]?) htk
  rw [hk, List.getElem?_take_of_lt hi, Array.getElem?_toList, segCells_cons, hnews] at this
  exact this
 obtain ⟨i0, hi0, hz0, hz1, hz2⟩ := info_parts seg_info
 have s1 : Hid (news.length = k * 2) := Lib.hid hnl
 have s2 : Hid (∀ u ∈ news, u.oneCell' = true) := Lib.hid (by rw [← hnews]; exact segCells_one tl)
 have hsrc : Hid (∀ t u, news[t]? = some u → w.drew.cell? ((⟨g, 2, none⟩ : Addr).add t) = some u) := Lib.hid fun t u hu => by
  have ht := (List.getElem?_eq_some_iff.1 hu).1
  have : w.cell? ⟨g, 2 + t, none⟩ = some u := by
   rw [cell_at hg, hcell _ (by omega), show 2 + t = t + 1 + 1 by omega]
   simpa using hu
  rw [Addr.add_lit]
  exact this
 have s3 : Hid (∀ t, t < news.length → (w.drew.cell? ⟨g, 0 + 0 * 2 + t, none⟩).isSome = true ∧ w.drew.frozen? ⟨g, 0 + 0 * 2 + t, none⟩ = false) := Lib.hid fun t ht => by
  constructor
  ·show (w.cell? _).isSome = true
   rw [cell_at hg]
   rw [Array.getElem?_eq_getElem (by omega)]
   rfl
  ·exact free_at hg _
 obtain ⟨W1, hW1⟩ : ∃ W1, W1 = w.drew.setCells g (0 + 0 * 2) news := ⟨_, rfl⟩
 obtain ⟨cur1, r1, r2, r3, r4⟩ := setCells_row g 207 news (0 + 0 * 2) cur w.drew hg (by rw [hnl, hsz]; omega)
 rw [← hW1] at r1 r4
 have hcl : ∀ ty, (Builtin.clear_ #[168] ty #[.slice (some ⟨g, k * 2, none⟩) 1 (c - k)]).run Tryz.prog W1 = .ok (.tuple #[]) (W1.setCells g (k * 2) [I 0, I 0]) := fun ty => clear_seg W1 ty g (k * 2) (c - k) (fun j hj => by rw [cell_at r1, Array.getElem?_eq_getElem (by omega)]; rfl) (fun j hj => free_at r1 _)
 obtain ⟨cur2, q1, q2, q3, q4⟩ := setCells_row g 207 [I 0, I 0] (k * 2) cur1 W1 r1 (by rw [r2, hsz]; simp; omega)
 have FIN : Hid ((∃ cur', (W1.setCells g (k * 2) [I 0, I 0]).heap[g]? = some (.cells cur' 207 (0, 0)) ∧ cur'.size = c * 2 ∧ cur'.toList.take (k * 2) = news) ∧ Kept [g] w (W1.setCells g (k * 2) [I 0, I 0])) := Lib.hid ⟨⟨cur2, q1, by rw [q2, r2, hsz], by
  apply List.ext_getElem?
  intro i
  by_cases hi : i < k * 2
  ·rw [List.getElem?_take_of_lt hi, Array.getElem?_toList, q3, if_neg (by omega), r3, if_pos (by omega)]
   rfl
  ·rw [List.getElem?_eq_none (by simp; omega), List.getElem?_eq_none (by omega)]⟩, ((Kept.refl [g] w).drew).trans' (r4.trans' q4)⟩
 have HNW := Lib.hid hnews
 have hW : Hid (W1 = w.drew.setCells g (0 + 0 * 2) news) := Lib.hid hW1
 have hkI : (k : Int) ≤ 1000 := by omega
 have hk1 : (1 : Int) ≤ k := by omega
 have hc2 : ¬ c = 1 := by omega
 have hcI : (k : Int) + 1 ≤ c := by omega
 have hcz : (c : Int) ≤ 9223372036854775807 := by unfold maxLen at hcm; omega
 have hck : ¬ c = k := by omega
 have hkz : (1 : Int) ≤ (k : Int) + 1 := by omega
 have hkb : decide ((1 : Int) ≤ (k : Int) + 1) = true := decide_eq_true hkz
 have hkn : 1 ≤ k + 1 := by omega
 rw [hk] at *
 clear hcell hnl hnews htk hg hW1 r1 r2 r3 r4 q1 q2 q3 q4 hsz hk
 go_enter Tryz.func204, Tryz.ntmps204
 go_wp2_with (fail)
 go_region_law (refine step_append_room rfl (.tmp 22) (.tmp 25) 168 rfl 207 i0 2 Tryz.underlying168 hi0 hz1 g 0 0 c (by simp [Act.eval, Act.put]) ⟨g, 2, none⟩ k (c - 1) news (by simp [Act.eval, Act.put]) s1.out hsrc.out s2.out (by omega) s3.out ?_; rw [← hW.out])
 all_goals
  go_wp2
  go_ret
  exact ⟨rfl, by rw [HNW.out]; exact FIN.out.1, FIN.out.2⟩
theorem sclone_any (w : World) (segs : List Sg) (g c : Nat) (h1 : 1 ≤ segs.length) (hs : segs.length ≤ 1001)
    (hc : ∀ (i : Nat) (hi : i < segs.length), w.cell? ⟨g, i * 2, none⟩ = some (I segs[i].1) ∧ w.cell? ⟨g, i * 2 + 1, none⟩ = some (I segs[i].2)) :
    Calls Tryz.prog 205 #[.slice (some ⟨g, 0, none⟩) segs.length c] w fun e w' => (∃ g' c', e = .returned (.slice (some ⟨g', 0, none⟩) segs.length c') ∧ w.heap.size ≤ g' ∧ w'.ownsRow w.heap.size 207 2 (.slice (some ⟨g', 0, none⟩) segs.length c') segs.length (segCells segs)) ∧ Kept [] w w' := by
  obtain ⟨i0, hi, hz0, hz1, hz2⟩ := info_parts seg_info
  have hsrc : Hid (∀ j u, (segCells segs)[j]? = some u → (w.alloc (.cells #[] 207)).cell? ((⟨g, 0, none⟩ : Addr).add j) = some u) := Lib.hid fun j u hu => by
    have hj := (List.getElem?_eq_some_iff.1 hu).1
    rw [segCells_len] at hj
    rw [Addr.add_lit, Nat.zero_add]
    apply Lib.cell?_alloc_some
    have hk : j / 2 < segs.length := by omega
    obtain ⟨q1, q2⟩ := segCells_at segs (j / 2) hk
    obtain ⟨d1, d2⟩ := hc (j / 2) hk
    rcases Nat.mod_two_eq_zero_or_one j with h | h
    · rw [show j / 2 * 2 = j by omega] at q1 d1
      rw [q1] at hu; rw [d1]; exact hu
    · rw [show j / 2 * 2 + 1 = j by omega] at q2 d2
      rw [q2] at hu; rw [d2]; exact hu
  have H1 := Lib.hid (And.intro h1 hs)
  have hq := fun (w : World) (a : Option Addr) (n c n' c' : Nat) => Lib.run_eql_slice_nil (P := Tryz.prog) w 168 207 a n c n' c' Tryz.underlying168
  clear hc h1 hs
  go_enter Tryz.func205, Tryz.ntmps205
  go_wp2_with (first
    | (at_builtin
       refine wpList_append_lies _ rfl (.tmp 5) (.tmp 6) _ rfl w.heap.size 207 i0 (.agg #[.int .i64 0, .int .i64 0]) 2 16 Tryz.underlying168 hi hz0 hz1 hz2 rfl (by decide) (.slice (some ⟨w.heap.size, 0, none⟩) 0 0) 0 [] rfl ⟨rfl, .inr ⟨w.heap.size, 0, #[], rfl, Nat.le_refl _, heap_new w _, Nat.le_refl _, Nat.zero_le _, rfl, rfl⟩⟩ ⟨g, 0, none⟩ segs.length c (segCells segs) rfl (segCells_len segs) hsrc.out (segCells_one segs) (by have := H1.out; omega) (by have := H1.out; unfold maxLen; omega) (by have := H1.out; omega) (by rw [World.size_alloc]; omega) _ rfl ?_
       intro g cap wa own1 gr1 hat hlt
       have kg := kept_grown gr1
       have HA := Lib.hid (And.intro own1 (And.intro hat kg))
       clear own1 gr1 hat hlt kg))
  go_ret
  obtain ⟨own1, hat, kg⟩ := HA.out
  rw [Nat.zero_add] at *
  rw [List.nil_append] at own1
  refine ⟨⟨_, _, rfl, ?_, own1⟩, ((Kept.refl [] w).alloc _).new kg ?_⟩
  · exact (own_lt own1 _ rfl).1
  · intro x hx
    have : x = w.heap.size := by simpa [Value.ownBlock] using hx
    omega
section
attribute [local go_sem] Oper.semAt_some
theorem grown_cells {W W' : World} {row : Option Nat} (hg : W.grownBy W' row) (hr : ∀ r, row = some r → ∃ o : Obj, W.heap[r]? = some o ∧ o.isCells = false) {k : Nat} {cs : Array Value} {t : TypeId} {f : Nat × Nat} (hk : W.heap[k]? = some (.cells cs t f)) : W'.heap[k]? = some (.cells cs t f) := by
 refine (hg.block k (lt_of_block hk) ?_).trans hk
 intro e
 obtain ⟨o, ho, hc⟩ := hr k e.symm
 rw [hk] at ho
 cases ho
 cases hc
theorem own_grown {W W' : World} {row : Option Nat} (hg : W.grownBy W' row) (hr : ∀ r, row = some r → ∃ o : Obj, W.heap[r]? = some o ∧ o.isCells = false) {B : Nat} {t : TypeId} {size : Nat} {v : Value} {n : Nat} {xs : List Value} (h : W.ownsRow B t size v n xs) : W'.ownsRow B t size v n xs := by
 refine ⟨h.1, ?_⟩
 rcases h.2 with h0 | ⟨g, cap, cur, e, hb, hgb, hrest⟩
 ·exact .inl h0
 ·exact .inr ⟨g, cap, cur, e, hb, grown_cells hg hr hgb, hrest⟩
def BoxAt (W : World) (o : Nat) (B : Nat) (pre : List Nat) : Prop := ∃ v, W.heap[o]? = some (.cells #[v] 124 (0, 0)) ∧ W.ownsRow B 3 1 v pre.length (pre.map fun x : Nat => I x)
theorem boxAt_grown {W W' : World} {row : Option Nat} (hg : W.grownBy W' row) (hr : ∀ r, row = some r → ∃ o : Obj, W.heap[r]? = some o ∧ o.isCells = false) {o B : Nat} {pre : List Nat} (h : BoxAt W o B pre) : BoxAt W' o B pre := by
 obtain ⟨v, h1, h2⟩ := h
 exact ⟨v, grown_cells hg hr h1, own_grown hg hr h2⟩
theorem kept_from {a W W' : World} {row : Option Nat} (k : Kept [] a W) (hg : W.grownBy W' row) (hr : ∀ r, row = some r → a.heap.size ≤ r) : Kept [] a W' :=
 ⟨hg.os.trans k.os, hg.tape.trans k.tape, hg.output.trans k.output, Nat.le_trans k.size hg.size, fun i hi hn => (hg.block i (Nat.lt_of_lt_of_le hi k.size) (fun e => by have := hr i e.symm; omega)).trans (k.block i hi hn)⟩
theorem segI_own (a : World) (o B C : Nat) (hC : a.heap.size ≤ C) : OwnFrom C (fun (pre : List Nat) W => BoxAt W o B pre ∧ Kept [] a W) :=
 fun s W W' row hs hg hr => ⟨boxAt_grown hg (fun r e => (hr r e).2) hs.1, kept_from hs.2 hg (fun r e => Nat.le_trans hC (hr r e).1)⟩
theorem all1_in (n l bx lb g c n0 : Nat) (segs : List Sg) (hs : segs.length ≤ 1000) (hlb : lb < n0) (hgn : g < n0) (J Jx : List Nat → World → Prop)
  (W : World) (hJ : AbidesFrom W.heap.size J)
  (hY : ∀ pre x W1, J pre W1 → pre.length < segs.length → YieldAt Fence.wide (n - 1) Tryz.prog l #[I (x : Nat)] W1 fun e W' =>
   (e = .returned (.bool true) ∧ J (pre ++ [x]) W' ∧ Below n0 W1 W') ∨ (e = .returned (.bool false) ∧ Jx (pre ++ [x]) W'))
  (hbx : W.cell? ⟨bx, 0, none⟩ = some (Ptr lb)) (hv : W.cell? ⟨lb, 1, none⟩ = some (.slice (some ⟨g, 0, none⟩) segs.length c))
  (hcl : ∀ (i : Nat) (hi : i < segs.length), W.cell? ⟨g, i * 2, none⟩ = some (I segs[i].1) ∧ W.cell? ⟨g, i * 2 + 1, none⟩ = some (I segs[i].2)) (h0 : J [] W) (hn0 : n0 ≤ W.heap.size) :
  CallsIn Fence.wide n Tryz.prog 203 #[.func (.yield l) #[] #[], .pointer (some ⟨bx, 0, none⟩)] W fun e W' => (∃ v, e = .returned v) ∧
   ((∃ ys, ys = segs.map (·.2) ∧ J ys W') ∨ (∃ pre, True ∧ Jx pre W')) := by
 have hsI : (segs.length : Int) ≤ 1000 := by omega
 have HC := Lib.hid (And.intro hcl hY)
 have HJ := Lib.hid hJ
 clear hcl hY hJ
 refine callsIn_of_wp Tryz.func203 rfl trivial ?_ rfl
 simp only [Tryz.ntmps203, List.size_toArray, List.length_cons, List.length_nil, Nat.reduceAdd, Nat.reduceSub, Array.replicate_succ, Array.replicate_zero, List.push_toArray, List.append_toArray, List.nil_append, List.cons_append]
 gi_wp2
 gi_loopw [10] (fun i wr => ∃ j : Nat, j ≤ segs.length ∧ i = I j ∧ J ((segs.take j).map (·.2)) wr ∧ Below n0 W wr) (fun i _ => segs.length - (intOf i).toNat)
 case atStart => exact ⟨0, by omega, rfl, h0, Below.refl _ _⟩
 case round =>
  obtain ⟨j, hj, rfl, hJs, hb⟩ := hrel
  by_cases hlt : j < segs.length
  ·have hltI : (j : Int) < segs.length := by omega
   have hj0 : (0 : Int) ≤ j := by omega
   obtain ⟨a0, a1⟩ := HC.out.1 j hlt
   have e0 := (hb.cell (p := ⟨g, j * 2, none⟩) hgn).trans a0
   have e1 := (hb.cell (p := ⟨g, j * 2 + 1, none⟩) hgn).trans a1
   clear a0 a1
   have hJ2 := HJ.out ((segs.take j).map (·.2)) wr (wr.alloc (Obj.cells #[I segs[j].1, I segs[j].2] 207)) none hJs (World.grownBy_alloc _ _ _) (fun r e => by cases e)
   obtain ⟨fn, tmps, assign, body, hy, hR⟩ := HC.out.2 _ segs[j].2 _ hJ2 (by rw [List.length_map, List.length_take]; omega)
   have hsz := World.size_alloc wr (Obj.cells #[I segs[j].1, I segs[j].2] 207)
   have HB := Lib.hid (And.intro hb hJs)
   have HR := Lib.hid hR
   clear hb hJs hR hJ2 hsz
   gi_wp2
   refine ⟨(fun h => by cases h), ?_⟩
   refine HR.out.mono ?_
   rintro e W3 (⟨rfl, hJ3, hk3⟩ | ⟨rfl, hJx3⟩)
   ·have hb3 : Below n0 W W3 := (HB.out.1.trans ((Below.refl n0 wr).alloc (Nat.le_trans hn0 HB.out.1.size) _)).trans hk3
    have hjs : (segs.take j).map (·.2) ++ [segs[j].2] = (segs.take (j + 1)).map (·.2) := by
     rw [List.take_add_one, List.getElem?_eq_getElem hlt, List.map_append]; rfl
    rw [hjs] at hJ3
    have H3 := Lib.hid (And.intro hJ3 hb3)
    clear hJ3 hb3 hjs hk3
    gi_wp2
    go_roundw
    case rel => exact ⟨j + 1, by omega, by go_num, H3.out.1, H3.out.2⟩
    case measure => simp [intOf]; omega
   ·gi_wp2
    refine bodyPost_ret (results_none rfl _ _ _) rfl ?_
    exact ⟨⟨_, rfl⟩, .inr ⟨_, trivial, hJx3⟩⟩
  ·have hje : j = segs.length := by omega
   have hjf : ¬ (j : Int) < segs.length := by omega
   have hjb : decide ((j : Int) < segs.length) = false := decide_eq_false hjf
   rw [hje, List.take_length] at hJs
   have HB := Lib.hid hJs
   clear hJs hb
   gi_wp2
   go_end0
   exact ⟨⟨_, rfl⟩, .inl (by first | exact HB.out | exact ⟨_, rfl, HB.out⟩)⟩
theorem all_in (n : Nat) (lb : Nat) (w : World) :
  CallsIn Fence.wide n Tryz.prog 177 #[Ptr lb] w fun e w' => e = .returned (.func (.func 203) #[] #[.pointer (some ⟨w.heap.size, 0, none⟩)]) ∧ w' = w.alloc (.cells #[Ptr lb] 133) := by
 refine callsIn_of_wp Tryz.func177 rfl trivial ?_ rfl
 simp only [Tryz.ntmps177, List.size_toArray, List.length_cons, List.length_nil, Nat.reduceAdd, Nat.reduceSub, Array.replicate_succ, Array.replicate_zero, List.push_toArray, List.append_toArray, List.nil_append, List.cons_append]
 gi_wp2
 go_ret
 exact ⟨rfl, rfl⟩
theorem all_stops (n bx lb g c n0 : Nat) (segs : List Sg) (hs : segs.length ≤ 1000) (hlb : lb < n0) (hgn : g < n0) (w : World) (hbx : bx < w.heap.size) (hn0 : n0 ≤ w.heap.size)
  (hb : w.cell? ⟨bx, 0, none⟩ = some (Ptr lb)) (hv : w.cell? ⟨lb, 1, none⟩ = some (.slice (some ⟨g, 0, none⟩) segs.length c))
  (hcl : ∀ (i : Nat) (hi : i < segs.length), w.cell? ⟨g, i * 2, none⟩ = some (I segs[i].1) ∧ w.cell? ⟨g, i * 2 + 1, none⟩ = some (I segs[i].2)) :
  SeqStopsK Fence.wide n Tryz.prog 203 #[.pointer (some ⟨bx, 0, none⟩)] (fun x : Nat => #[I x]) (Below n0) (fun ys => ys = segs.map (·.2)) (fun _ => True) segs.length w := fun l J Jx W hW hJ _ hY h0 => by
 have hl : lb < w.heap.size := by omega
 have hg : g < w.heap.size := by omega
 exact all1_in n l bx lb g c n0 segs hs hlb hgn J Jx W hJ hY ((hW.cell (p := ⟨bx, 0, none⟩) hbx).trans hb) ((hW.cell (p := ⟨lb, 1, none⟩) hl).trans hv) (fun i hi => ⟨(hW.cell (p := ⟨g, i * 2, none⟩) hg).trans (hcl i hi).1, (hW.cell (p := ⟨g, i * 2 + 1, none⟩) hg).trans (hcl i hi).2⟩) h0 (Nat.le_trans hn0 hW.size)
theorem int_info : (Tryz.prog.info? 3).map (fun i => (i.zero, i.size, i.bytes)) = some (some (.int .i64 0), 1, 8) := by kernel_rfl
theorem segs_in (w : World) (lb pb fb bb cb fs n : Nat) (v : Value) (segs : List Sg) (f : Fl) (dead : Bool) (h : LgAt w lb pb fb bb cb fs n v segs f dead) (hne : segs ≠ []) (hs : segs.length ≤ 1000) :
    CallsIn Fence.wide 9 Tryz.prog 144 #[Ptr lb] w fun e w' => ∃ v', e = .returned v' ∧ w'.ownsRow (w.heap.size + 1) 3 1 v' segs.length ((segs.map (·.2)).map fun x : Nat => I x) ∧ Kept [] w w' := by
  obtain ⟨g, c, hv, hcl⟩ := h.slice hne
  obtain ⟨c0, c1, c2⟩ := h.cells
  have hlt := h.lt
  have hg : g < w.heap.size := World.block_lt_of_cell? w _ (hcl 0 (by have := List.length_pos_iff.2 hne; omega)).1
  obtain ⟨i0, hi, hz0, hz1, hz2⟩ := info_parts int_info
  subst hv
  have k2 : Kept [] w ((w.alloc (.cells #[.slice none 0 0] 124)).alloc (.cells #[Ptr lb] 133)) := ((Kept.refl _ _).alloc _).alloc _
  have hst := all_stops 8 (w.heap.size + 1) lb g c w.heap.size segs hs hlt hg ((w.alloc (.cells #[.slice none 0 0] 124)).alloc (.cells #[Ptr lb] 133)) (by simp) (by simp; omega)
    (by have := heap_new (w.alloc (.cells #[.slice none 0 0] 124)) (.cells #[Ptr lb] 133)
        rw [World.size_alloc] at this
        exact cell_at this 0) (k2.cellOf c1) (fun i hi => ⟨k2.cellOf (hcl i hi).1, k2.cellOf (hcl i hi).2⟩)
  have hbx : BoxAt ((w.alloc (.cells #[.slice none 0 0] 124)).alloc (.cells #[Ptr lb] 133)) w.heap.size (w.heap.size + 1) [] :=
    ⟨.slice none 0 0, ((Kept.refl [] (w.alloc (.cells #[.slice none 0 0] 124))).alloc _).at (heap_new w _) (by simp), rfl, .inl ⟨rfl, rfl⟩⟩
  have HST := Lib.hid hst
  have H0 := Lib.hid (And.intro hbx k2)
  have HI := Lib.hid (And.intro hi (And.intro hz0 (And.intro hz1 hz2)))
  clear hst hbx k2 hi hz0 hz1 hz2 h c0 c1 c2 hcl hlt hg hne
  refine callsIn_of_wp_marks Tryz.func144 rfl trivial ?_ rfl
  simp only [Tryz.ntmps144, List.size_toArray, List.length_cons, List.length_nil, Nat.reduceAdd, Nat.reduceSub, Array.replicate_succ, Array.replicate_zero, List.push_toArray, List.append_toArray, List.nil_append, List.cons_append]
  gi_wp2
  refine ⟨trivial, ?_⟩
  refine (all_in 8 _ _).mono ?_
  rintro e w' ⟨rfl, rfl⟩
  gi_wp2
  refine wpIn_rangeFunc_ownF rfl (by decide) (gf := 203) (lb := #[.pointer (some ⟨w.heap.size + 1, 0, none⟩)]) rfl trivial (enters_of Tryz.func203 (by kernel_rfl) rfl) HST.out belowK_t (belowK_b (by simp; omega)) (Below.refl _ _) (fun _ => rfl)
    (fun pre W => BoxAt W w.heap.size (w.heap.size + 1) pre ∧ Kept [] w W) (fun _ _ _ => False) (segI_own w _ _ _ (by simp; omega)) (fun _ _ _ _ _ h _ _ => h) H0.out
    (fun x => { tmps := #[Ptr lb, undef, .slice none 0 0, .pointer (some ⟨w.heap.size, 0, none⟩), I x, Ptr lb, .func (.func 203) #[] #[.pointer (some ⟨w.heap.size + 1, 0, none⟩)], I x, undef, undef, undef, undef, undef], defers := [] }) ?assign ?body ?done ?stop
  case assign =>
    intro l x W K hK
    gi_wp2
    exact hK
  case body =>
    rintro l pre x W ⟨⟨v, hb, own⟩, k⟩ hlen
    have c0 := cell_at hb 0
    have f0 := free_at hb 0
    simp only [List.getElem?_toArray, List.getElem?_cons_zero] at c0
    obtain ⟨hi, hz0, hz1, hz2⟩ := HI.out
    have hol := lt_of_block hb
    have HW := Lib.hid (And.intro hb (And.intro own k))
    have hpl : pre.length ≤ 1000 := by omega
    clear hb k
    gi_wp2_with (first
      | (gi_at_builtin
         refine wpListIn_append_own _ rfl (.tmp 8) (.tmp 10) 124 rfl (w.heap.size + 1) 3 i0 (.int .i64 0) 1 8 Tryz.underlying124 hi hz0 hz1 hz2 rfl (by decide) v _ _ rfl (own_kept own ((Kept.refl [] W).alloc _) (by simp)) ⟨W.heap.size, 0, none⟩ 1 1 [I x] rfl rfl (World.news_of_block (heap_new W _)) (by intro u hu; simp at hu; subst hu; rfl) (by unfold maxLen; omega) (by omega) (by rw [World.size_alloc]; omega) ?_
         intro v' w3 own3 hg3 hnil3
         have hb3 : w3.heap[w.heap.size]? = some (.cells #[v] 124 (0, 0)) := (hg3.block _ (by rw [World.size_alloc]; omega) (fun e => by have := (own_lt own _ e.symm).1; omega)).trans (((Kept.refl [] W).alloc _).at HW.out.1 (by simp))
         have c3 := cell_at hb3 0
         simp only [List.getElem?_toArray, List.getElem?_cons_zero] at c3
         obtain ⟨p3, cp3, rfl⟩ := own_form own3
         have f3 := free_at hb3 0
         have H3 := Lib.hid (And.intro own3 (And.intro hg3 hb3))
         clear own3 hg3 hnil3 hb3 c0 f0
         go_frame))
    obtain ⟨own3, hg3, hb3⟩ := H3.out
    obtain ⟨hb, own, k⟩ := HW.out
    have hcells : ∀ (j : Nat) (o : Obj), v.ownBlock = some j → (W.alloc (Obj.cells #[I x] 3)).heap[j]? = some o → o.isCells = true := by
      intro j o hj ho
      rcases own.2 with ⟨rfl, _⟩ | ⟨g, cap, cur, rfl, hbg, hg, _⟩
      · cases hj
      · have : g = j := by simpa [Value.ownBlock] using hj
        subst this
        rw [((Kept.refl [] W).alloc (Obj.cells #[I x] 3)).at hg (by simp)] at ho
        cases ho; rfl
    have hk4 : Kept [w.heap.size] w3 (w3.setCell ⟨w.heap.size, 0, none⟩ (.slice p3 (pre.length + 1) cp3)) := (Kept.refl _ _).setCell (.inl (by simp)) _
    have hkk : Kept [] w (w3.setCell ⟨w.heap.size, 0, none⟩ (.slice p3 (pre.length + 1) cp3)) := ((k.alloc (Obj.cells #[I x] 3)).new (kept_grown hg3) (fun q hq => by have := (own_lt own q (by simpa using hq)).1; omega)).new hk4 (by intro q hq; simp at hq; omega)
    refine ⟨(KeepsOthers.alloc W _).trans ((KeepsOthers.of_grownBy hg3 hcells).trans (KeepsOthers.setCell _ _ _)), ?_, ⟨_, by have := heap_setCell_at hb3 0 (.slice p3 (pre.length + 1) cp3); simpa using this, ?_⟩, hkk⟩
    · exact (((Below.refl w.heap.size W).alloc (by omega) _).grown hg3 (by rw [World.size_alloc]; omega) (fun q hq => by have := (own_lt own q hq).1; omega)).setCell (p := ⟨w.heap.size, 0, none⟩) (Nat.le_refl _) _
    · rw [List.length_append, List.map_append]
      exact own_kept own3 hk4 (fun q hq hm => by have := (own_lt own3 q hq).1; simp at hm; omega)
  case done =>
    rintro D ys W hD rfl ⟨⟨v, hb, own⟩, k⟩ hK
    have c0 := cell_at hb 0
    simp only [List.getElem?_toArray, List.getElem?_cons_zero] at c0
    have HW := Lib.hid (And.intro hb (And.intro own k))
    clear hb own k
    gi_wp2
    refine ⟨by simp, .inl ⟨_, _, rfl, run_takeDeferred hK, ?_⟩⟩
    obtain ⟨hb, own, k⟩ := HW.out
    have hg := grownBy_putObj' W D (.deferred none)
    have hrow : ∀ r, some D = some r → ∃ o : Obj, W.heap[r]? = some o ∧ o.isCells = false := fun r e => by cases e; exact ⟨_, hK, rfl⟩
    refine ⟨_, results_tmp rfl _ _ _, v, rfl, ?_, kept_from k hg (fun r e => by cases e; simp at hD; omega)⟩
    have := own_grown hg hrow own
    simpa using this
  case stop =>
    rintro D c pre W _ _ h _
    exact h.elim
theorem segs_any (w : World) (lb pb fb bb cb fs n : Nat) (v : Value) (segs : List Sg) (f : Fl) (dead : Bool) (h : LgAt w lb pb fb bb cb fs n v segs f dead) (hne : segs ≠ []) (hs : segs.length ≤ 1000) :
  Calls Tryz.prog 144 #[Ptr lb] w fun e w' => ∃ v', e = .returned v' ∧ w'.ownsRow (w.heap.size + 1) 3 1 v' segs.length ((segs.map (·.2)).map fun x : Nat => I x) ∧ Kept [] w w' :=
 (callsIn_wide (n := 9)).1 (segs_in w lb pb fb bb cb fs n v segs f dead h hne hs)
end
end Go.Proofs.YteplbljjlbdhaaaGreatDoor
