/- The number of a chunk in hex, walked. -/
import Derived.Test.YtamihbcgiaeacaaDoorRdT
namespace Go.Proofs.YtamihbcgiaeacaaDoor
open Go.RowKit
set_option linter.unusedVariables false
set_option linter.unusedSimpArgs false
def hexC : List UInt8 := [48, 49, 50, 51, 52, 53, 54, 55, 56, 57, 97, 66, 99, 68, 101, 70]
theorem hexC_at : ∀ d, d < 16 → (hexC.take (d + 1)).drop d = [hexD d] := by decide
theorem hexC_cut : ∀ d, d < 16 → List.drop d (48 :: List.take d [49, 50, 51, 52, 53, 54, 55, 56, 57, 97, 66, 99, 68, 101, 70]) = [hexD d] := by decide
theorem hexL_lt (f n : Nat) (h : n < 16) : hexL f n = [hexD n] := by cases f <;> simp [hexL, h, Nat.mod_eq_of_lt h]
theorem hexL_ge (f n : Nat) (h : ¬ n < 16) : hexL (f + 1) n = hexL f (n / 16) ++ [hexD (n % 16)] := by simp [hexL, h]
theorem hexL_len (f : Nat) : ∀ n, (hexL f n).length ≤ f + 1 ∧ 0 < (hexL f n).length := by
  induction f with
  | zero => intro n; simp [hexL]
  | succ f ih =>
    intro n
    by_cases h : n < 16
    · rw [hexL_lt _ _ h]; simp
    · rw [hexL_ge _ _ h, List.length_append]
      have := ih (n / 16)
      simp only [List.length_cons, List.length_nil]
      omega
set_option maxHeartbeats 1000000 in
theorem hex_any (n : Nat) (w : World) (hn : n ≤ 20000) : Calls Tryd.prog 14 #[I n] w fun e w' => e = .returned (S (hexL 5 n)) ∧ w = w' := by
  have hd0 := hexC_at (n % 16) (Nat.mod_lt _ (by decide))
  have H0 := Lib.hid hd0
  have hn' : (n : Int) ≤ 20000 := by omega
  clear hd0
  go_enter Tryd.func14, Tryd.ntmps14
  go_wp2_with (fail)
  have hstart : ∃ f : Nat, n / 16 < 16 ^ (f + 1) ∧ hexL 5 n = (if n / 16 = 0 then [] else hexL f (n / 16)) ++ [hexD (n % 16)] := by
    refine ⟨4, ?_, ?_⟩
    · have h16 : (16 : Nat) ^ (4 + 1) = 1048576 := by decide
      rw [h16]; omega
    · by_cases h : n < 16
      · rw [hexL_lt _ _ h, if_pos (by omega), Nat.mod_eq_of_lt h]; rfl
      · rw [hexL_ge _ _ h, if_neg (by omega)]
  have HST := Lib.hid hstart
  clear hstart
  go_loop [0, 3] (fun x t => ∃ (m f : Nat) (u : List UInt8), x = I m ∧ t = S u ∧ m ≤ 20000 ∧ m < 16 ^ (f + 1) ∧ hexL 5 n = (if m = 0 then [] else hexL f m) ++ u) (fun x _ => (intOf x).toNat)
  case atStart =>
    obtain ⟨f, h1, h2⟩ := HST.out
    exact ⟨n / 16, f, [hexD (n % 16)], by go_num, by rw [← H0.out]; rfl, by omega, h1, h2⟩
  case round =>
    obtain ⟨m, f, u, rfl, rfl, hm, hmf, hu⟩ := hrel
    have hul : u.length ≤ 6 := by
      have h1 := (hexL_len 5 n).1
      rw [hu, List.length_append] at h1
      omega
    have HU := Lib.hid hu
    have HF := Lib.hid hmf
    clear hu hmf
    have hm' : (m : Int) ≤ 20000 := by omega
    by_cases h0 : m = 0
    · subst h0
      go_wp2_with (fail)
      go_ret
      have h1 := HU.out
      simp only [if_true, List.nil_append] at h1
      exact ⟨by rw [h1]; rfl, rfl⟩
    · have hpos : (0 : Int) < m := by omega
      have hd := hexC_at (m % 16) (Nat.mod_lt _ (by decide))
      have HD := Lib.hid hd
      have H0' := Lib.hid h0
      clear hd h0
      go_wp2_with (fail)
      refine ⟨?_, by simp [intOf]; omega⟩
      have h1 := HU.out
      rw [if_neg H0'.out] at h1
      have hgoal : ∃ g : Nat, m / 16 < 16 ^ (g + 1) ∧ hexL 5 n = (if m / 16 = 0 then [] else hexL g (m / 16)) ++ (hexD (m % 16) :: u) := by
        by_cases h16 : m < 16
        · refine ⟨0, by omega, ?_⟩
          rw [h1, hexL_lt _ _ h16, if_pos (by omega), Nat.mod_eq_of_lt h16]; rfl
        · cases f with
          | zero => have := HF.out; omega
          | succ f =>
            refine ⟨f, ?_, ?_⟩
            · have := HF.out
              rw [Nat.div_lt_iff_lt_mul (by decide)]
              rwa [Nat.pow_succ] at this
            · rw [h1, hexL_ge _ _ h16, if_neg (by omega), List.append_assoc]; rfl
      obtain ⟨g, hg1, hg2⟩ := hgoal
      exact ⟨m / 16, g, hexD (m % 16) :: u, by go_num, by first | (show S (((hexC.take (m % 16 + 1)).drop (m % 16)) ++ u) = _; rw [HD.out]; rfl) | (simp only [hexC_cut _ (Nat.mod_lt m (by decide : 0 < 16))]; rfl), by omega, hg1, hg2⟩
end Go.Proofs.YtamihbcgiaeacaaDoor
