/- Walks and lemmas on the program of this seat, used by its statements; each theorem bears its own conditions. -/
import Derived.Test.YtncdfaocemfgfaaGreatOJ
import Derived.Handy
import Derived.OwnWalk
import Derived.Deep.AppendLies
import Derived.IntWalk
import Derived.Deep.CutRange
import Derived.Deep.RegionHeld3
import Derived.Deep.RegionLaw
namespace Go.Proofs.YtncdfaocemfgfaaGreat
open Go.RowKit
set_option linter.unusedVariables false
set_option linter.unusedSimpArgs false
section
set_option maxHeartbeats 8000000
set_option maxRecDepth 100000
/-! ### record -/
theorem record_none (s : List UInt8) (hs : s.length = 512) (p : Nat) (hp : p < 8) (hx : byteAt s (64 * p) ≠ 1) (w : World) :
    Calls Tryz.prog 76 #[S s, I p] w fun e w' => e = .returned (.tuple #[S [], I 0]) ∧ w' = w := by
  obtain ⟨A, hA⟩ : ∃ A : Nat, 64 * p = A := ⟨_, rfl⟩
  have hAI : (p : Int) * 64 = A := by omega
  have hA8 : (A : Int) < 512 := by omega
  have hsI : (s.length : Int) = 512 := by omega
  rw [hA] at hx
  have hpI : (p : Int) ≤ 8 := by omega
  have hAlt : A < s.length := by omega
  have hn1 : ¬ (byteAt s A).toNat = 1 := fun h => hx (UInt8.toNat_inj.1 h)
  have hb : ¬ ((byteAt s A).toNat : Int) = 1 := by omega
  have hb2 : (((byteAt s A).toNat : Int) != 1) = true := by simpa using hb
  clear hA hx hp
  go_enter Tryz.func76, Tryz.ntmps76
  go_wp2_with (fail)
  go_ret2
  exact ⟨rfl, rfl⟩
def bodyF (s : List UInt8) (p : Nat) : Nat → List UInt8
  | 0 => (s.take (64 * p + 64)).drop (64 * p + 4)
  | k + 1 => bodyF s p k ++ (s.take (64 * (p + (k + 1)) + 64)).drop (64 * (p + (k + 1)) + 1)
theorem bodyF_len (s : List UInt8) (hs : s.length = 512) (p : Nat) : ∀ k, p + k < 8 → (bodyF s p k).length = 60 + 63 * k := by
  intro k
  induction k with
  | zero => intro h; simp only [bodyF, List.length_drop, List.length_take, hs]; omega
  | succ k ih => intro h; simp only [bodyF, List.length_append, List.length_drop, List.length_take, hs]; rw [ih (by omega)]; omega
theorem record_some (s : List UInt8) (hs : s.length = 512) (p : Nat) (hp8 : p < 8) (r : List UInt8) (hr : r.length ≤ 400) (pg : Nat) (hpg : pagesF r.length = pg) (hp : p + pg ≤ 8) (h1 : byteAt s (64 * p) = 1) (h3 : byteAt s (64 * p + 3) = 0)
    (hn : getN ((s.take (64 * p + 3)).drop (64 * p + 1)) = r.length) (hnext : ∀ i, 1 ≤ i → i < pg → byteAt s (64 * (p + i)) = 2) (hout : (bodyF s p (pg - 1)).take r.length = r) (w : World) :
    Calls Tryz.prog 76 #[S s, I p] w fun e w' => e = .returned (.tuple #[S r, I pg]) ∧ w' = w := by
  have hpg1 : 1 ≤ pg := by rw [← hpg]; unfold pagesF; split <;> omega
  have HG := Lib.hid (fun W => get_any W ((s.take (64 * p + 3)).drop (64 * p + 1)) (by intro h; have := congrArg List.length h; simp [List.length_drop, List.length_take, hs] at this; omega) (by simp [List.length_drop, List.length_take, hs]; omega))
  have HP := Lib.hid (fun W => pages_any r.length hr W)
  rw [hpg] at HP
  rw [hn] at HG
  obtain ⟨A, hA⟩ : ∃ A : Nat, 64 * p = A := ⟨_, rfl⟩
  have hAI : (p : Int) * 64 = A := by omega
  have hA8 : (A : Int) < 512 := by omega
  have hA4 : (A : Int) ≤ 448 := by omega
  have hsI : (s.length : Int) = 512 := by omega
  have HB := Lib.hid (bodyF_len s hs p)
  have hb0 : bodyF s p 0 = (s.take (A + 64)).drop (A + 4) := by rw [← hA]; rfl
  have HB0 := Lib.hid hb0
  rw [hA] at h1 h3 HG
  have hpI : (p : Int) ≤ 8 := by omega
  have hq1 : ((byteAt s A).toNat : Int) = 1 := by rw [h1]; rfl
  have hq1b : (((byteAt s A).toNat : Int) != 1) = false := by rw [h1]; rfl
  have hq3 : ((byteAt s (A + 3)).toNat : Int) = 0 := by rw [h3]; rfl
  have hq3b : (((byteAt s (A + 3)).toNat : Int) != 0) = false := by rw [h3]; rfl
  have hpgI : ((pg : Int) == 0) = false := by simp; omega
  have hpg0 : ¬ (pg : Int) = 0 := by omega
  have hppI : (p : Int) + pg ≤ 8 := by omega
  have hppb : decide ((8 : Int) < p + pg) = false := decide_eq_false (by omega)
  have hrI : (r.length : Int) ≤ 400 := by omega
  have hpgL : (1 : Int) ≤ pg := by omega
  have HN := Lib.hid hnext
  have HO := Lib.hid hout
  have HA := Lib.hid hA
  have HS := Lib.hid hs
  clear hA hp hn hnext hout hb0 h1 h3 hs hp8
  go_enter Tryz.func76, Tryz.ntmps76
  go_wp2_with (fail)
  refine (HG.out _).mono ?_
  rintro e w1 ⟨rfl, hw⟩
  replace hw := hw.symm
  subst hw
  go_wp2_with (fail)
  refine (HP.out _).mono ?_
  rintro e w1 ⟨rfl, hw⟩
  replace hw := hw.symm
  subst hw
  go_wp2_with (fail)
  go_loopw [6, 10, 11] (fun va vo vi wr => ∃ j : Nat, j + 1 ≤ pg ∧ va = I (64 * (p + j) : Nat) ∧ vo = S (bodyF s p j) ∧ vi = I (j + 1 : Nat) ∧ wr = w) (fun _ _ vi _ => pg - (intOf vi).toNat)
  case atStart => exact ⟨0, by omega, by rw [Nat.add_zero, HA.out], by rw [HB0.out], rfl, rfl⟩
  case round =>
    obtain ⟨j, hj, rfl, rfl, rfl, hw⟩ := hrel
    replace hw := hw.symm
    subst hw
    by_cases hlt : j + 1 < pg
    · obtain ⟨C, hC⟩ : ∃ C : Nat, 64 * (p + j) = C := ⟨_, rfl⟩
      obtain ⟨D, hD⟩ : ∃ D : Nat, 64 * (p + (j + 1)) = D := ⟨_, rfl⟩
      have hCD : (C : Int) + 64 = D := by omega
      have hDI : (D : Int) ≤ 448 := by omega
      have hDI0 : (0 : Int) ≤ D := by omega
      have h2 := HN.out (j + 1) (by omega) hlt
      rw [hD] at h2
      have hq2 : ((byteAt s D).toNat : Int) = 2 := by rw [h2]; rfl
      have hq2b : (((byteAt s D).toNat : Int) != 2) = false := by rw [h2]; rfl
      have HBS : Hid (bodyF s p (j + 1) = bodyF s p j ++ (s.take (D + 64)).drop (D + 1)) := Lib.hid (by rw [← hD]; rfl)
      have hbl := HB.out j (by have := HO.out; omega)
      obtain ⟨X, hX⟩ : ∃ X, bodyF s p j = X := ⟨_, rfl⟩
      rw [hX] at hbl HBS
      have hXl : (X.length : Int) ≤ 600 := by omega
      have hltI : ((j + 1 : Nat) : Int) < pg := by omega
      have hres : ¬ 9223372036854775807 < X.length + ((s.take (D + 64)).drop (D + 1)).length := by
        rw [List.length_drop, List.length_take]; omega
      rw [hC, hX]
      obtain ⟨K, hK⟩ : ∃ K : Nat, j + 1 = K := ⟨_, rfl⟩
      rw [hK] at hltI
      have HK := Lib.hid (And.intro hK (And.intro hC (And.intro hD hX)))
      have hKI : (K : Int) ≤ 8 := by omega
      rw [hK]
      clear hC hD h2 hX hK hbl hlt
      go_wp2_with (fail)
      go_roundw
      case rel =>
        obtain ⟨q1, q2, q3, q4⟩ := HK.out
        exact ⟨K, by omega, by rw [← q1, q3], by rw [← q1, HBS.out], by go_num, trivial⟩
      case measure => simp [intOf]; omega
    · have hje : j + 1 = pg := by omega
      have hbl := HB.out j (by omega)
      have hrl : r.length ≤ (bodyF s p j).length := by
        have := congrArg List.length HO.out
        rw [List.length_take, show pg - 1 = j by omega] at this
        omega
      have hout := HO.out
      rw [show pg - 1 = j by omega] at hout
      obtain ⟨X, hX⟩ : ∃ X, bodyF s p j = X := ⟨_, rfl⟩
      rw [hX] at hbl hrl hout ⊢
      have hXl : (r.length : Int) ≤ X.length := by omega
      have hXl2 : (X.length : Int) ≤ 600 := by omega
      obtain ⟨C, hC⟩ : ∃ C : Nat, 64 * (p + j) = C := ⟨_, rfl⟩
      rw [hC, hje]
      have HO2 := Lib.hid hout
      clear hout hX hC hje hbl
      go_wp2_with (fail)
      go_ret2
      exact ⟨by rw [HO2.out]; rfl, rfl⟩
end
section
set_option maxHeartbeats 8000000
set_option maxRecDepth 100000
/-! ### A segment's bytes, pure -/
def padP (s : List UInt8) : List UInt8 := s ++ List.replicate (64 - s.length) 255
theorem padP_len (s : List UInt8) (h : s.length ≤ 64) : (padP s).length = 64 := by unfold padP; simp; omega
def layB (b : List UInt8) (o : Nat) : List (List UInt8) → List UInt8
  | [] => b
  | s :: l => layB (progL b o s) (o + 64) l
theorem progL_len (bs s : List UInt8) (a : Nat) : (progL bs a s).length = bs.length := by unfold progL; rw [onL_len]
theorem layF_len (l : List (List UInt8)) : ∀ (f : Fl) (a : Nat), (layF f a l).bs.length = f.bs.length := by
  induction l with
  | nil => intro f a; rfl
  | cons s l ih => intro f a; show (layF _ _ l).bs.length = _; rw [ih]; exact progL_len _ _ _
theorem layF_block (k : Nat) (l : List (List UInt8)) : ∀ (f : Fl) (o : Nat), 512 * k + 512 ≤ f.bs.length → blockOf (layF f (512 * k + o) l).bs k = layB (blockOf f.bs k) o l := by
  induction l with
  | nil => intro f o h; rfl
  | cons s l ih =>
    intro f o h
    show blockOf (layF _ (512 * k + o + 64) l).bs k = layB (progL (blockOf f.bs k) o s) (o + 64) l
    rw [Nat.add_assoc, ih _ _ (by show _ ≤ (progL f.bs _ s).length; rw [progL_len]; exact h)]
    show layB (blockOf (progL f.bs (512 * k + o) s) k) _ l = _
    rw [prog_same h]
theorem layF_other (k j : Nat) (hn : j ≠ k) (l : List (List UInt8)) : ∀ (f : Fl) (o : Nat), 512 * j + 512 ≤ f.bs.length → (∀ s ∈ l, s.length ≤ 64) → o + 64 * l.length ≤ 512 → blockOf (layF f (512 * k + o) l).bs j = blockOf f.bs j := by
  induction l with
  | nil => intro f o h _ _; rfl
  | cons s l ih =>
    intro f o h hs ho
    have hs1 := hs s (by simp)
    rw [List.length_cons] at ho
    show blockOf (layF _ (512 * k + o + 64) l).bs j = _
    rw [Nat.add_assoc, ih _ _ (by show _ ≤ (progL f.bs _ s).length; rw [progL_len]; exact h) (fun x hx => hs x (by simp [hx])) (by omega)]
    exact prog_other h hn (by omega)
theorem layB_fill (l : List (List UInt8)) : ∀ (P : List UInt8) (m : Nat), (∀ s ∈ l, s.length ≤ 64) → 64 * l.length ≤ m → layB (P ++ List.replicate m 255) P.length l = P ++ (l.map padP).flatten ++ List.replicate (m - 64 * l.length) 255 := by
  induction l with
  | nil => intro P m _ _; simp [layB]
  | cons s l ih =>
    intro P m hs hm
    rw [List.length_cons] at hm
    have hs1 := hs s (by simp)
    show layB (progL (P ++ List.replicate m 255) P.length s) (P.length + 64) l = _
    rw [prog_fill P s m (by omega), show m - s.length = (64 - s.length) + (m - 64) by omega, ← List.replicate_append_replicate]
    have e : P ++ (s ++ (List.replicate (64 - s.length) 255 ++ List.replicate (m - 64) 255)) = (P ++ padP s) ++ List.replicate (m - 64) 255 := by unfold padP; simp only [List.append_assoc]
    have e2 : P.length + 64 = (P ++ padP s).length := by rw [List.length_append, padP_len s hs1]
    rw [e, e2, ih _ _ (fun x hx => hs x (by simp [hx])) (by omega), List.map_cons, List.flatten_cons, List.length_cons, show m - 64 - 64 * l.length = m - 64 * (l.length + 1) by omega]
    simp only [List.append_assoc]
/-- A record's bytes. -/
def recB (r : List UInt8) : List UInt8 := padP ([1] ++ putN 2 r.length ++ [0] ++ r.take 60) ++ ((chunksF 7 (r.drop 60)).map fun c => padP (2 :: c)).flatten
theorem appF_block (f : Fl) (k : Nat) (r P : List UInt8) (m : Nat) (hr : r.length ≤ 400) (h : 512 * k + 512 ≤ f.bs.length) (hb : blockOf f.bs k = P ++ List.replicate m 255) (hm : 64 * pagesF r.length ≤ m) :
    blockOf (appF f (512 * k + P.length) r).bs k = P ++ recB r ++ List.replicate (m - 64 * pagesF r.length) 255 := by
  show blockOf (progL (layF f (512 * k + P.length) (laidL r)).bs (512 * k + P.length + 3) [0]) k = _
  rw [Nat.add_assoc, prog_same (by rw [layF_len]; exact h), layF_block _ _ _ _ h, hb, layB_fill _ _ _ (fun s hs => (laidL_all r s hs).2) (by rw [laidL_len r hr]; exact hm), laidL_len r hr]
  generalize hR : List.replicate (m - 64 * pagesF r.length) (255 : UInt8) = R
  have e : ((laidL r).map padP).flatten = [1] ++ putN 2 r.length ++ 255 :: (r.take 60 ++ List.replicate (64 - (firstL r).length) 255 ++ ((chunksF 7 (r.drop 60)).map fun c => padP (2 :: c)).flatten) := by
    unfold laidL
    rw [List.map_cons, List.flatten_cons, List.map_map]
    show padP (firstL r) ++ _ = _
    unfold padP
    simp [firstL, Function.comp_def, padP]
  have e3 : P.length + 3 = (P ++ ([1] ++ putN 2 r.length)).length := by simp [putN_len]
  have e4 : (firstL r).length = ([1] ++ putN 2 r.length ++ [0] ++ r.take 60).length := by simp [firstL]
  have e5 : P ++ ((laidL r).map padP).flatten ++ R = (P ++ ([1] ++ putN 2 r.length)) ++ 255 :: (r.take 60 ++ List.replicate (64 - (firstL r).length) 255 ++ ((chunksF 7 (r.drop 60)).map fun c => padP (2 :: c)).flatten ++ R) := by
    rw [e]
    simp only [List.append_assoc, List.cons_append]
  rw [e5, e3, prog_one]
  unfold recB
  rw [e4]
  unfold padP
  simp only [List.append_assoc, List.cons_append, List.nil_append]
theorem appF_other (f : Fl) (k j o : Nat) (r : List UInt8) (hn : j ≠ k) (hr : r.length ≤ 400) (h : 512 * j + 512 ≤ f.bs.length) (ho : o + 64 * pagesF r.length ≤ 512) (hp : 1 ≤ pagesF r.length) : blockOf (appF f (512 * k + o) r).bs j = blockOf f.bs j := by
  show blockOf (progL (layF f (512 * k + o) (laidL r)).bs (512 * k + o + 3) [0]) j = _
  rw [Nat.add_assoc, prog_other (by rw [layF_len]; exact h) hn (by simp; omega)]
  exact layF_other k j hn _ _ _ h (fun s hs => (laidL_all r s hs).2) (by rw [laidL_len r hr]; exact ho)
end
section
set_option maxHeartbeats 8000000
set_option maxRecDepth 100000
set_option linter.unusedSectionVars false
/-! ### A record is read as it was laid -/
theorem chunks_at (k : Nat) : ∀ (x : List UInt8) (i : Nat), i < k → 63 * i < x.length → (chunksF k x)[i]? = some ((x.drop (63 * i)).take 63) := by
  induction k with
  | zero => intro x i hi; omega
  | succ k ih =>
    intro x i hi hx
    have hne : x ≠ [] := by intro h; subst h; simp at hx
    show (if x = [] then [] else x.take 63 :: chunksF k (x.drop 63))[i]? = _
    rw [if_neg hne]
    cases i with
    | zero => simp
    | succ i =>
      rw [List.getElem?_cons_succ, ih _ i (by omega) (by rw [List.length_drop]; omega), List.drop_drop, show 63 + 63 * i = 63 * (i + 1) by omega]
theorem page_cut (l : List (List UInt8)) : ∀ (i : Nat) (g : List UInt8), (∀ x ∈ l, x.length = 64) → l[i]? = some g → ∃ A B, l.flatten = A ++ g ++ B ∧ A.length = 64 * i := by
  induction l with
  | nil => intro i g _ h; simp at h
  | cons x l ih =>
    intro i g hall h
    cases i with
    | zero =>
      have : x = g := by simpa using h
      exact ⟨[], l.flatten, by rw [← this]; simp, rfl⟩
    | succ i =>
      obtain ⟨A, B, e, hl⟩ := ih i g (fun y hy => hall y (by simp [hy])) (by simpa using h)
      exact ⟨x ++ A, B, by rw [List.flatten_cons, e]; simp, by rw [List.length_append, hl, hall x (by simp)]; omega⟩
theorem cut_mid (X g Y : List UInt8) (a : Nat) (hg : g.length = 64) (ha : a ≤ 64) : ((X ++ g ++ Y).take (X.length + 64)).drop (X.length + a) = g.drop a := by
  have e : (X ++ g ++ Y).take (X.length + 64) = X ++ g := by
    rw [show X.length + 64 = (X ++ g).length by simp [hg]]
    exact List.take_left
  rw [e, ← List.drop_drop, List.drop_left]
def pagesR (r : List UInt8) : List (List UInt8) := padP ([1] ++ putN 2 r.length ++ [0] ++ r.take 60) :: (chunksF 7 (r.drop 60)).map fun c => padP (2 :: c)
theorem recB_pages (r : List UInt8) : recB r = (pagesR r).flatten := rfl
theorem pagesR_all (r : List UInt8) : ∀ x ∈ pagesR r, x.length = 64 := by
  intro x hx
  rcases List.mem_cons.1 hx with rfl | hx
  · apply padP_len; simp [putN_len]; omega
  · obtain ⟨y, hy, rfl⟩ := List.mem_map.1 hx
    have := chunks_all _ _ y hy
    exact padP_len _ (by simp; omega)
theorem pagesR_len (r : List UInt8) (hr : r.length ≤ 400) : (pagesR r).length = pagesF r.length := by
  rw [← laidL_len r hr]; simp [pagesR, laidL]
theorem recB_len (r : List UInt8) (hr : r.length ≤ 400) : (recB r).length = 64 * pagesF r.length := by
  rw [recB_pages, ← pagesR_len r hr]
  have := pagesR_all r
  generalize pagesR r = l at *
  induction l with
  | nil => rfl
  | cons x l ih =>
    rw [List.flatten_cons, List.length_append, this x (by simp), ih (fun y hy => this y (by simp [hy])), List.length_cons]
    omega
theorem pages_pos (n : Nat) : 1 ≤ pagesF n := by unfold pagesF; split <;> omega
section
variable (r P Q : List UInt8) (p : Nat) (hr : r.length ≤ 400) (hP : P.length = 64 * p)
include hr hP
theorem page_at (i : Nat) (g : List UInt8) (hg : (pagesR r)[i]? = some g) : ∃ X Y, P ++ recB r ++ Q = X ++ g ++ Y ∧ X.length = 64 * (p + i) ∧ g.length = 64 := by
  obtain ⟨A, B, e, hl⟩ := page_cut _ i g (pagesR_all r) hg
  refine ⟨P ++ A, B ++ Q, by rw [recB_pages, e]; simp, by rw [List.length_append, hl, hP]; omega, pagesR_all r g (List.mem_of_getElem? hg)⟩
theorem page_byte (i a : Nat) (ha : a < 64) (g : List UInt8) (hg : (pagesR r)[i]? = some g) : byteAt (P ++ recB r ++ Q) (64 * (p + i) + a) = byteAt g a := by
  obtain ⟨X, Y, e, hX, hl⟩ := page_at r P Q p hr hP i g hg
  rw [e, ← hX]
  unfold byteAt
  rw [List.append_assoc, List.getD_eq_getElem?_getD, List.getElem?_append_right (by omega), Nat.add_sub_cancel_left, List.getElem?_append_left (by omega), ← List.getD_eq_getElem?_getD]
theorem page_rest (i a : Nat) (ha : a ≤ 64) (g : List UInt8) (hg : (pagesR r)[i]? = some g) : ((P ++ recB r ++ Q).take (64 * (p + i) + 64)).drop (64 * (p + i) + a) = g.drop a := by
  obtain ⟨X, Y, e, hX, hl⟩ := page_at r P Q p hr hP i g hg
  rw [e, ← hX]
  exact cut_mid X g Y a hl ha
theorem pagesR_at (j : Nat) (hj : j + 1 < pagesF r.length) : (pagesR r)[j + 1]? = some (padP (2 :: ((r.drop 60).drop (63 * j)).take 63)) := by
  unfold pagesR
  have h6 : 60 + 63 * j < r.length ∧ j < 7 := by unfold pagesF at hj; split at hj <;> omega
  rw [List.getElem?_cons_succ, List.getElem?_map, chunks_at 7 _ j h6.2 (by rw [List.length_drop]; omega)]
  rfl
theorem body_pre (j : Nat) (hj : j < pagesF r.length) : ∃ Z, bodyF (P ++ recB r ++ Q) p j = r.take (60 + 63 * j) ++ Z ∧ (60 + 63 * j ≤ r.length → Z = []) := by
  induction j with
  | zero =>
    have h := page_rest r P Q p hr hP 0 4 (by omega) _ rfl
    refine ⟨List.replicate (64 - ([1] ++ putN 2 r.length ++ [0] ++ r.take 60).length) 255, ?_, ?_⟩
    · simp only [Nat.add_zero] at h
      show ((P ++ recB r ++ Q).take (64 * p + 64)).drop (64 * p + 4) = _
      rw [h]
      unfold padP
      rw [show (4 : Nat) = ([1] ++ putN 2 r.length ++ [0]).length by simp [putN_len], List.append_assoc ([1] ++ putN 2 r.length ++ [0]), List.drop_left]
    · intro h6
      refine congrArg (fun n => List.replicate n (255 : UInt8)) (?_ : _ = 0)
      simp [putN_len]
      omega
  | succ j ih =>
    obtain ⟨Z, e, hz⟩ := ih (by omega)
    have h6 : 60 + 63 * j < r.length := by unfold pagesF at hj; split at hj <;> omega
    have hZ := hz (by omega)
    have h := page_rest r P Q p hr hP (j + 1) 1 (by omega) _ (pagesR_at r P p hr hP j hj)
    refine ⟨List.replicate (64 - (2 :: ((r.drop 60).drop (63 * j)).take 63).length) 255, ?_, ?_⟩
    · show bodyF _ p j ++ ((P ++ recB r ++ Q).take (64 * (p + (j + 1)) + 64)).drop (64 * (p + (j + 1)) + 1) = _
      rw [h, e, hZ, List.append_nil]
      unfold padP
      rw [List.cons_append, List.drop_succ_cons, List.drop_zero, ← List.append_assoc, List.drop_drop, show 60 + 63 * (j + 1) = (60 + 63 * j) + 63 by omega, show r.take (60 + 63 * j + 63) = r.take (60 + 63 * j) ++ (r.drop (60 + 63 * j)).take 63 from List.take_add]
    · intro h7
      refine congrArg (fun n => List.replicate n (255 : UInt8)) (?_ : _ = 0)
      simp
      omega
theorem record_reads (hlen : (P ++ recB r ++ Q).length = 512) (w : World) : Calls Tryz.prog 76 #[S (P ++ recB r ++ Q), I p] w fun e w' => e = .returned (.tuple #[S r, I (pagesF r.length)]) ∧ w' = w := by
  have hrl := recB_len r hr
  have hpp := pages_pos r.length
  have hsum : 64 * p + 64 * pagesF r.length ≤ 512 := by rw [List.length_append, List.length_append, hrl, hP] at hlen; omega
  have hb0 := page_byte r P Q p hr hP 0 0 (by omega) _ rfl
  have hb3 := page_byte r P Q p hr hP 0 3 (by omega) _ rfl
  have hr3 := page_rest r P Q p hr hP 0 1 (by omega) _ rfl
  simp only [Nat.add_zero] at hb0 hb3 hr3
  obtain ⟨x, y, hxy⟩ : ∃ x y, putN 2 r.length = [x, y] := by
    have := putN_len 2 r.length
    match h : putN 2 r.length, this with
    | [x, y], _ => exact ⟨x, y, rfl⟩
  refine record_some _ hlen p (by omega) r hr _ rfl (by omega) ?_ ?_ ?_ ?_ ?_ w
  · rw [hb0]; rfl
  · rw [hb3, hxy]; rfl
  · have e : ((P ++ recB r ++ Q).take (64 * p + 3)).drop (64 * p + 1) = (((P ++ recB r ++ Q).take (64 * p + 64)).drop (64 * p + 1)).take 2 := by
      rw [List.take_drop, List.take_take, Nat.min_eq_left (by omega)]
    rw [e, hr3, hxy]
    show getN [x, y] = _
    rw [← hxy]
    exact getN_put 2 _ (by have : (256 : Nat) ^ 2 = 65536 := by decide
                           omega)
  · intro i h1 h2
    obtain ⟨j, rfl⟩ : ∃ j, i = j + 1 := ⟨i - 1, by omega⟩
    have := page_byte r P Q p hr hP (j + 1) 0 (by omega) _ (pagesR_at r P p hr hP j h2)
    simp only [Nat.add_zero] at this
    rw [this]
    rfl
  · obtain ⟨Z, e, _⟩ := body_pre r P Q p hr hP (pagesF r.length - 1) (by omega)
    have hge : r.length ≤ 60 + 63 * (pagesF r.length - 1) := by unfold pagesF; split <;> omega
    rw [e, List.take_of_length_le hge, List.take_left]
end
end
section
set_option maxHeartbeats 8000000
set_option maxRecDepth 100000
/-! ### Room behind an Append -/
theorem pageOf_free (P : List UInt8) (m q : Nat) (hP : P.length + 64 * m = 512) (h1 : 8 - m ≤ q) (h2 : q ≤ 7) : allB (pageOf (P ++ List.replicate (64 * m) 255) q) = true := by
  unfold pageOf
  rw [List.drop_append, List.drop_of_length_le (by omega), List.nil_append, List.drop_replicate, List.take_replicate]
  unfold allB
  simp
theorem roomF_go (P : List UInt8) (m : Nat) (hP : P.length + 64 * m = 512) (hm : m ≤ 7) (hl : m < 7 → allB (pageOf (P ++ List.replicate (64 * m) 255) (7 - m)) = false) (j : Nat) (hj : j ≤ m) : roomF (P ++ List.replicate (64 * m) 255) (7 - m + j) = j := by
  induction j with
  | zero =>
    by_cases h : m = 7
    · subst h; rfl
    · obtain ⟨q, hq⟩ : ∃ q, 7 - m = q + 1 := ⟨6 - m, by omega⟩
      have h1 := hl (by omega)
      rw [Nat.add_zero, hq]
      rw [hq] at h1
      show (if allB (pageOf _ (q + 1)) = true then roomF _ q + 1 else 0) = 0
      rw [if_neg (by rw [h1]; decide)]
  | succ j ih =>
    show (if allB (pageOf _ (7 - m + j + 1)) = true then roomF _ (7 - m + j) + 1 else 0) = _
    rw [if_pos (pageOf_free P m _ hP (by omega) (by omega)), ih (by omega)]
theorem roomF_is (P : List UInt8) (m : Nat) (hP : P.length + 64 * m = 512) (hm : m ≤ 7) (hl : m < 7 → allB (pageOf (P ++ List.replicate (64 * m) 255) (7 - m)) = false) : roomF (P ++ List.replicate (64 * m) 255) 7 = m := by
  have := roomF_go P m hP hm hl m (Nat.le_refl _)
  rw [show 7 - m + m = 7 by omega] at this
  exact this
theorem pagesR_head (r : List UInt8) (i : Nat) (g : List UInt8) (h : (pagesR r)[i]? = some g) : byteAt g 0 ≠ 255 := by
  unfold pagesR at h
  cases i with
  | zero =>
    have : padP ([1] ++ putN 2 r.length ++ [0] ++ r.take 60) = g := by simpa using h
    rw [← this]
    show (1 : UInt8) ≠ 255
    decide
  | succ i =>
    rw [List.getElem?_cons_succ, List.getElem?_map] at h
    cases hc : (chunksF 7 (r.drop 60))[i]? with
    | none => rw [hc] at h; cases h
    | some c =>
      rw [hc] at h
      have : padP (2 :: c) = g := Option.some.inj h
      rw [← this]
      show (2 : UInt8) ≠ 255
      decide
theorem allB_not (l : List UInt8) (h : l ≠ []) (h2 : byteAt l 0 ≠ 255) : allB l = false := by
  cases l with
  | nil => exact absurd rfl h
  | cons c l =>
    have h3 : c ≠ 255 := h2
    unfold allB
    simp [h3]
/-- The room of a segment whose last record is r. -/
theorem room_rec (P r : List UInt8) (p m : Nat) (hr : r.length ≤ 400) (hP : P.length = 64 * p) (hm : p + pagesF r.length + m = 8) (hp : 1 ≤ p) : roomF (P ++ recB r ++ List.replicate (64 * m) 255) 7 = m := by
  have hpp := pages_pos r.length
  have hrl := recB_len r hr
  refine roomF_is (P ++ recB r) m (by rw [List.length_append, hrl, hP]; omega) (by omega) fun _ => ?_
  obtain ⟨g, hg⟩ : ∃ g, (pagesR r)[pagesF r.length - 1]? = some g := ⟨_, List.getElem?_eq_getElem (by rw [pagesR_len r hr]; omega)⟩
  obtain ⟨X, Y, e, hX, hl⟩ := page_at r P (List.replicate (64 * m) 255) p hr hP _ g hg
  have e2 : pageOf (P ++ recB r ++ List.replicate (64 * m) 255) (7 - m) = g := by
    unfold pageOf
    rw [e, show 64 * (7 - m) = X.length by rw [hX]; omega, List.append_assoc, List.drop_left, show (64 : Nat) = g.length from hl.symm, List.take_left]
  rw [e2]
  exact allB_not g (by intro h; rw [h] at hl; cases hl) (pagesR_head r _ g hg)
theorem room_head (num : Nat) : roomF (headL num ++ List.replicate 448 255) 7 = 7 :=
  roomF_is (headL num) 7 (by rw [headL_len]) (by omega) (fun h => by omega)
end
section
set_option maxHeartbeats 8000000
set_option maxRecDepth 100000
/-! ### A segment's bytes by its records -/
def usedF : List (List UInt8) → Nat
  | [] => 0
  | r :: rs => pagesF r.length + usedF rs
theorem usedF_snoc (rs : List (List UInt8)) (r : List UInt8) : usedF (rs ++ [r]) = usedF rs + pagesF r.length := by
  induction rs with
  | nil => simp [usedF]
  | cons x rs ih => simp only [List.cons_append, usedF, ih]; omega
def segP (num : Nat) (rs : List (List UInt8)) : List UInt8 := headL num ++ (rs.map recB).flatten
def segB (num : Nat) (rs : List (List UInt8)) : List UInt8 := segP num rs ++ List.replicate (64 * (7 - usedF rs)) 255
theorem segP_len (num : Nat) (rs : List (List UInt8)) (hr : ∀ r ∈ rs, r.length ≤ 400) : (segP num rs).length = 64 * (1 + usedF rs) := by
  unfold segP
  rw [List.length_append, headL_len]
  induction rs with
  | nil => simp [usedF]
  | cons x rs ih =>
    have := ih (fun r h => hr r (by simp [h]))
    simp only [List.map_cons, List.flatten_cons, List.length_append, recB_len x (hr x (by simp)), usedF]
    omega
theorem segP_snoc (num : Nat) (rs : List (List UInt8)) (r : List UInt8) : segP num (rs ++ [r]) = segP num rs ++ recB r := by
  unfold segP; simp
theorem seg_app (f : Fl) (k num : Nat) (rs : List (List UInt8)) (r : List UInt8) (hrs : ∀ r ∈ rs, r.length ≤ 400) (hr : r.length ≤ 400) (h : 512 * k + 512 ≤ f.bs.length) (hb : blockOf f.bs k = segB num rs) (hu : usedF rs + pagesF r.length ≤ 7) :
    blockOf (appF f (512 * k + 64 * (1 + usedF rs)) r).bs k = segB num (rs ++ [r]) := by
  have := appF_block f k r (segP num rs) (64 * (7 - usedF rs)) hr h hb (by omega)
  rw [segP_len num rs hrs] at this
  rw [this]
  unfold segB
  rw [segP_snoc, usedF_snoc]
  congr 2
  omega
theorem seg_room (num : Nat) (rs : List (List UInt8)) (hrs : ∀ r ∈ rs, r.length ≤ 400) (hu : usedF rs ≤ 7) : roomF (segB num rs) 7 = 7 - usedF rs := by
  rcases List.eq_nil_or_concat rs with rfl | ⟨rs', r, rfl⟩
  · have := room_head num
    unfold segB segP
    simpa [usedF] using this
  · rw [List.concat_eq_append] at *
    rw [usedF_snoc] at hu ⊢
    unfold segB
    rw [segP_snoc, usedF_snoc]
    exact room_rec _ r (1 + usedF rs') _ (hrs r (by simp)) (segP_len num rs' (fun x h => hrs x (by simp [h]))) (by omega) (by omega)
theorem seg_made (f : Fl) (fs k num : Nat) (h : 512 * (fs + k) + 512 ≤ f.bs.length) (hb : blockOf f.bs (fs + k) = fullB) : blockOf (madeF f fs k num).bs (fs + k) = segB num [] := by
  show blockOf (progL (progL f.bs (512 * fs + k * 512) (83 :: putN 6 num)) (512 * fs + (k * 512 + 7)) [0]) (fs + k) = _
  rw [show 512 * fs + (k * 512 + 7) = 512 * (fs + k) + 7 by omega, show 512 * fs + k * 512 = 512 * (fs + k) + 0 by omega, prog_same (by rw [progL_len]; exact h), prog_same h, hb, made_block]
  unfold segB segP
  simp [usedF]
theorem seg_made_other (f : Fl) (fs k num j : Nat) (hn : j ≠ fs + k) (h : 512 * j + 512 ≤ f.bs.length) : blockOf (madeF f fs k num).bs j = blockOf f.bs j := by
  show blockOf (progL (progL f.bs (512 * fs + k * 512) (83 :: putN 6 num)) (512 * fs + (k * 512 + 7)) [0]) j = _
  rw [show 512 * fs + (k * 512 + 7) = 512 * (fs + k) + 7 by omega, show 512 * fs + k * 512 = 512 * (fs + k) + 0 by omega, prog_other (by rw [progL_len]; exact h) hn (by simp), prog_other h hn (by simp [putN_len])]
theorem seg_free (num : Nat) (rs : List (List UInt8)) (hrs : ∀ r ∈ rs, r.length ≤ 400) (q : Nat) (h1 : 1 + usedF rs ≤ q) (h2 : q < 8) : byteAt (segB num rs) (64 * q) = 255 := by
  unfold segB byteAt
  rw [List.getD_eq_getElem?_getD, List.getElem?_append_right (by rw [segP_len num rs hrs]; omega), List.getElem?_replicate, if_pos (by rw [segP_len num rs hrs]; omega)]
  rfl
theorem segB_len (num : Nat) (rs : List (List UInt8)) (hrs : ∀ r ∈ rs, r.length ≤ 400) (hu : usedF rs ≤ 7) : (segB num rs).length = 512 := by
  unfold segB
  rw [List.length_append, segP_len num rs hrs, List.length_replicate]
  omega
theorem usedF_append (a b : List (List UInt8)) : usedF (a ++ b) = usedF a + usedF b := by
  induction a with
  | nil => simp [usedF]
  | cons x a ih => simp only [List.cons_append, usedF, ih]; omega
theorem record_seg (num : Nat) (a : List (List UInt8)) (r : List UInt8) (b : List (List UInt8)) (hrs : ∀ x ∈ a ++ r :: b, x.length ≤ 400) (hu : usedF (a ++ r :: b) ≤ 7) (w : World) :
    Calls Tryz.prog 76 #[S (segB num (a ++ r :: b)), I (1 + usedF a : Nat)] w fun e w' => e = .returned (.tuple #[S r, I (pagesF r.length)]) ∧ w' = w := by
  have hl := segB_len num _ hrs hu
  have e : segB num (a ++ r :: b) = segP num a ++ recB r ++ ((b.map recB).flatten ++ List.replicate (64 * (7 - usedF (a ++ r :: b))) 255) := by
    unfold segB segP
    simp
  rw [e] at hl ⊢
  exact record_reads r (segP num a) _ _ (hrs r (by simp)) (segP_len num a (fun x h => hrs x (by simp [h]))) hl w
theorem record_end (num : Nat) (a : List (List UInt8)) (hrs : ∀ x ∈ a, x.length ≤ 400) (hu : usedF a ≤ 7) (q : Nat) (h1 : 1 + usedF a ≤ q) (h2 : q < 8) (w : World) :
    Calls Tryz.prog 76 #[S (segB num a), I q] w fun e w' => e = .returned (.tuple #[S [], I 0]) ∧ w' = w :=
  record_none _ (segB_len num a hrs hu) q h2 (by rw [seg_free num a hrs q h1 h2]; decide) w
end

end Go.Proofs.YtncdfaocemfgfaaGreat
