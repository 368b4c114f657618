/- Walks and lemmas on the program of this seat, used by its statements; each theorem bears its own conditions. -/
import Derived.Test.YtdkjlaldhohbmaaGreatOJ
import Derived.Handy
import Derived.OwnWalk
import Derived.Deep.AppendLies
import Derived.IntWalk
import Derived.Deep.CutRange
import Derived.Deep.RegionHeld3
import Derived.Deep.RegionLaw
namespace Go.Proofs.YtdkjlaldhohbmaaGreat
open Go.RowKit
set_option linter.unusedVariables false
set_option linter.unusedSimpArgs false
set_option maxHeartbeats 8000000
set_option maxRecDepth 100000
/-! ### record -/
theorem record_none (s : List UInt8) (hs : s.length = 512) (p : Nat) (hp : p < 8) (hx : byteAt s (64 * p) ≠ 1) (w : World) :
    Calls Tryz.prog 91 #[S s, I p] w fun e w' => e = .returned (.tuple #[S [], I 0]) ∧ w' = w := by
  obtain ⟨A, hA⟩ : ∃ A : Nat, 64 * p = A := ⟨_, rfl⟩
  have hAI : (p : Int) * 64 = A := by omega
  have hA8 : (A : Int) < 512 := by omega
  have hsI : (s.length : Int) = 512 := by omega
  rw [hA] at hx
  have hpI : (p : Int) ≤ 8 := by omega
  have hAlt : A < s.length := by omega
  have hn1 : ¬ (byteAt s A).toNat = 1 := fun h => hx (UInt8.toNat_inj.1 h)
  have hb : ¬ ((byteAt s A).toNat : Int) = 1 := by omega
  have hb2 : (((byteAt s A).toNat : Int) != 1) = true := by simpa using hb
  clear hA hx hp
  go_enter Tryz.func91, Tryz.ntmps91
  go_wp2_with (fail)
  go_ret2
  exact ⟨rfl, rfl⟩
def bodyF (s : List UInt8) (p : Nat) : Nat → List UInt8
  | 0 => (s.take (64 * p + 64)).drop (64 * p + 4)
  | k + 1 => bodyF s p k ++ (s.take (64 * (p + (k + 1)) + 64)).drop (64 * (p + (k + 1)) + 1)
theorem bodyF_len (s : List UInt8) (hs : s.length = 512) (p : Nat) : ∀ k, p + k < 8 → (bodyF s p k).length = 60 + 63 * k := by
  intro k
  induction k with
  | zero => intro h; simp only [bodyF, List.length_drop, List.length_take, hs]; omega
  | succ k ih => intro h; simp only [bodyF, List.length_append, List.length_drop, List.length_take, hs]; rw [ih (by omega)]; omega
theorem record_some (s : List UInt8) (hs : s.length = 512) (p : Nat) (hp8 : p < 8) (r : List UInt8) (hr : r.length ≤ 400) (pg : Nat) (hpg : pagesF r.length = pg) (hp : p + pg ≤ 8) (h1 : byteAt s (64 * p) = 1) (h3 : byteAt s (64 * p + 3) = 0)
    (hn : getN ((s.take (64 * p + 3)).drop (64 * p + 1)) = r.length) (hnext : ∀ i, 1 ≤ i → i < pg → byteAt s (64 * (p + i)) = 2) (hout : (bodyF s p (pg - 1)).take r.length = r) (w : World) :
    Calls Tryz.prog 91 #[S s, I p] w fun e w' => e = .returned (.tuple #[S r, I pg]) ∧ w' = w := by
  have hpg1 : 1 ≤ pg := by rw [← hpg]; unfold pagesF; split <;> omega
  have HG := Lib.hid (fun W => get_any W ((s.take (64 * p + 3)).drop (64 * p + 1)) (by intro h; have := congrArg List.length h; simp [List.length_drop, List.length_take, hs] at this; omega) (by simp [List.length_drop, List.length_take, hs]; omega))
  have HP := Lib.hid (fun W => pages_any r.length hr W)
  rw [hpg] at HP
  rw [hn] at HG
  obtain ⟨A, hA⟩ : ∃ A : Nat, 64 * p = A := ⟨_, rfl⟩
  have hAI : (p : Int) * 64 = A := by omega
  have hA8 : (A : Int) < 512 := by omega
  have hA4 : (A : Int) ≤ 448 := by omega
  have hsI : (s.length : Int) = 512 := by omega
  have HB := Lib.hid (bodyF_len s hs p)
  have hb0 : bodyF s p 0 = (s.take (A + 64)).drop (A + 4) := by rw [← hA]; rfl
  have HB0 := Lib.hid hb0
  rw [hA] at h1 h3 HG
  have hpI : (p : Int) ≤ 8 := by omega
  have hq1 : ((byteAt s A).toNat : Int) = 1 := by rw [h1]; rfl
  have hq1b : (((byteAt s A).toNat : Int) != 1) = false := by rw [h1]; rfl
  have hq3 : ((byteAt s (A + 3)).toNat : Int) = 0 := by rw [h3]; rfl
  have hq3b : (((byteAt s (A + 3)).toNat : Int) != 0) = false := by rw [h3]; rfl
  have hpgI : ((pg : Int) == 0) = false := by simp; omega
  have hpg0 : ¬ (pg : Int) = 0 := by omega
  have hppI : (p : Int) + pg ≤ 8 := by omega
  have hppb : decide ((8 : Int) < p + pg) = false := decide_eq_false (by omega)
  have hrI : (r.length : Int) ≤ 400 := by omega
  have hpgL : (1 : Int) ≤ pg := by omega
  have HN := Lib.hid hnext
  have HO := Lib.hid hout
  have HA := Lib.hid hA
  have HS := Lib.hid hs
  clear hA hp hn hnext hout hb0 h1 h3 hs hp8
  go_enter Tryz.func91, Tryz.ntmps91
  go_wp2_with (fail)
  refine (HG.out _).mono ?_
  rintro e w1 ⟨rfl, hw⟩
  replace hw := hw.symm
  subst hw
  go_wp2_with (fail)
  refine (HP.out _).mono ?_
  rintro e w1 ⟨rfl, hw⟩
  replace hw := hw.symm
  subst hw
  go_wp2_with (fail)
  go_loopw [6, 10, 11] (fun va vo vi wr => ∃ j : Nat, j + 1 ≤ pg ∧ va = I (64 * (p + j) : Nat) ∧ vo = S (bodyF s p j) ∧ vi = I (j + 1 : Nat) ∧ wr = w) (fun _ _ vi _ => pg - (intOf vi).toNat)
  case atStart => exact ⟨0, by omega, by rw [Nat.add_zero, HA.out], by rw [HB0.out], rfl, rfl⟩
  case round =>
    obtain ⟨j, hj, rfl, rfl, rfl, hw⟩ := hrel
    replace hw := hw.symm
    subst hw
    by_cases hlt : j + 1 < pg
    · obtain ⟨C, hC⟩ : ∃ C : Nat, 64 * (p + j) = C := ⟨_, rfl⟩
      obtain ⟨D, hD⟩ : ∃ D : Nat, 64 * (p + (j + 1)) = D := ⟨_, rfl⟩
      have hCD : (C : Int) + 64 = D := by omega
      have hDI : (D : Int) ≤ 448 := by omega
      have hDI0 : (0 : Int) ≤ D := by omega
      have h2 := HN.out (j + 1) (by omega) hlt
      rw [hD] at h2
      have hq2 : ((byteAt s D).toNat : Int) = 2 := by rw [h2]; rfl
      have hq2b : (((byteAt s D).toNat : Int) != 2) = false := by rw [h2]; rfl
      have HBS : Hid (bodyF s p (j + 1) = bodyF s p j ++ (s.take (D + 64)).drop (D + 1)) := Lib.hid (by rw [← hD]; rfl)
      have hbl := HB.out j (by have := HO.out; omega)
      obtain ⟨X, hX⟩ : ∃ X, bodyF s p j = X := ⟨_, rfl⟩
      rw [hX] at hbl HBS
      have hXl : (X.length : Int) ≤ 600 := by omega
      have hltI : ((j + 1 : Nat) : Int) < pg := by omega
      have hres : ¬ 9223372036854775807 < X.length + ((s.take (D + 64)).drop (D + 1)).length := by
        rw [List.length_drop, List.length_take]; omega
      rw [hC, hX]
      obtain ⟨K, hK⟩ : ∃ K : Nat, j + 1 = K := ⟨_, rfl⟩
      rw [hK] at hltI
      have HK := Lib.hid (And.intro hK (And.intro hC (And.intro hD hX)))
      have hKI : (K : Int) ≤ 8 := by omega
      rw [hK]
      clear hC hD h2 hX hK hbl hlt
      go_wp2_with (fail)
      go_roundw
      case rel =>
        obtain ⟨q1, q2, q3, q4⟩ := HK.out
        exact ⟨K, by omega, by rw [← q1, q3], by rw [← q1, HBS.out], by go_num, trivial⟩
      case measure => simp [intOf]; omega
    · have hje : j + 1 = pg := by omega
      have hbl := HB.out j (by omega)
      have hrl : r.length ≤ (bodyF s p j).length := by
        have := congrArg List.length HO.out
        rw [List.length_take, show pg - 1 = j by omega] at this
        omega
      have hout := HO.out
      rw [show pg - 1 = j by omega] at hout
      obtain ⟨X, hX⟩ : ∃ X, bodyF s p j = X := ⟨_, rfl⟩
      rw [hX] at hbl hrl hout ⊢
      have hXl : (r.length : Int) ≤ X.length := by omega
      have hXl2 : (X.length : Int) ≤ 600 := by omega
      obtain ⟨C, hC⟩ : ∃ C : Nat, 64 * (p + j) = C := ⟨_, rfl⟩
      rw [hC, hje]
      have HO2 := Lib.hid hout
      clear hout hX hC hje hbl
      go_wp2_with (fail)
      go_ret2
      exact ⟨by rw [HO2.out]; rfl, rfl⟩
end Go.Proofs.YtdkjlaldhohbmaaGreat
