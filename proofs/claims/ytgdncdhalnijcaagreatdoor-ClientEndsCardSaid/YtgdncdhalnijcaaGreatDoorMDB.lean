/- Walks and lemmas on the program of this seat, used by its statements; each theorem bears its own conditions. -/
import Derived.Test.YtgdncdhalnijcaaGreatDoorMCP
import Derived.Handy
import Derived.Recover
import Derived.IntWalk
import Derived.Deep.CutRange
import Derived.OwnWalk
import Derived.Deep.AppendLies
import Derived.Deep.RegionLaw
import Derived.Deep.RegionHeld3
import Derived.StillTailTactics
import Derived.RegionTactic
import Derived.ChangeAlike
namespace Go.Proofs.YtgdncdhalnijcaaGreatDoor
open Go.RowKit
set_option linter.unusedVariables false
set_option linter.unusedSimpArgs false
namespace CL
set_option maxHeartbeats 8000000
set_option maxRecDepth 100000
theorem Kept.back {T : List Nat} {a b c : World} (k : Kept T b c) (h : Kept T a b) : Kept T a c := h.trans' k
theorem chunkPre_le (A : List UInt8) : ∀ j, (chunkPre A j).length ≤ 30 * j
  | 0 => by simp [chunkPre]
  | j + 1 => by
    have ih := chunkPre_le A j
    have h9 : ((A.drop (9 * j)).take 9).length ≤ 9 := by simp; omega
    have hd := dd_length ((A.drop (9 * j)).take 9).length (by omega)
    unfold chunkPre pieceL
    simp only [List.length_append, nl, List.length_cons, List.length_nil] at *
    omega
set_option maxRecDepth 100000 in
set_option maxHeartbeats 8000000 in
theorem response_any (k : Int) (A : List UInt8) (g : Nat) (w : World) (hA : A.length ≤ 2000) (hg : g ≤ 1048576) (x : List UInt8) (hx : respF k A g = x) :
    Calls Tryz.prog 14 #[I k, S A, I g] w fun e w' => e = .returned (S x) ∧ Kept [] w w' := by
  have hAI : (A.length : Int) ≤ 2000 := by omega
  have hgI : (g : Int) ≤ 1048576 := by omega
  have HX := Lib.hid hx
  have HN : Hid (∀ (n : Nat) (W : World), n ≤ 9223372036854775807 → Calls Tryz.prog 27 #[I n] W fun e w' => e = .returned (S (Lib.decDigits n)) ∧ Kept [] W w') := Lib.hid fun n W h => num_ref n W h
  obtain ⟨dA, hdA⟩ : ∃ d, Lib.decDigits A.length = d := ⟨_, rfl⟩
  have HDA := Lib.hid hdA
  have HDL := Lib.hid (dd_length A.length (by omega))
  have hl3 : dA.length ≤ 9 := by have := dd_length A.length (by omega); rw [hdA] at this; exact this
  clear hx hdA
  have hways : (k = 1 ∧ g < A.length) ∨ (k = 1 ∧ ¬ g < A.length) ∨ k = 2 ∨ k = 3 ∨ k = 4 ∨ (k ≠ 1 ∧ k ≠ 2 ∧ k ≠ 3 ∧ k ≠ 4) := by omega
  go_enter Tryz.func14, Tryz.ntmps14
  go_wp2_with (fail)
  refine (HN.out A.length _ (by omega)).mono ?_
  rintro e w1 ⟨rfl, k1⟩
  rw [HDA.out]
  have K1 := Lib.hid k1
  clear k1
  rcases hways with ⟨h1, h2⟩ | ⟨h1, h2⟩ | h1 | h1 | h1 | ⟨h1, h2, h3, h4⟩
  · have hX : Hid (x = partH g A.length ++ A.drop g) := Lib.hid (by rw [← HX.out]; unfold respF; rw [if_pos ⟨h1, h2⟩])
    have N0 : Hid (∀ W, Calls Tryz.prog 27 #[I g] W fun e w' => e = .returned (S (Lib.decDigits g)) ∧ Kept [] W w') := Lib.hid fun W => HN.out g W (by omega)
    have N1 : Hid (∀ W, Calls Tryz.prog 27 #[I ((A.length : Int) - 1)] W fun e w' => e = .returned (S (Lib.decDigits (A.length - 1))) ∧ Kept [] W w') := Lib.hid fun W => by
      have := HN.out (A.length - 1) W (by omega)
      have e : ((A.length - 1 : Nat) : Int) = (A.length : Int) - 1 := by omega
      rwa [e] at this
    have N2 : Hid (∀ W, Calls Tryz.prog 27 #[I ((A.length : Int) - g)] W fun e w' => e = .returned (S (Lib.decDigits (A.length - g))) ∧ Kept [] W w') := Lib.hid fun W => by
      have := HN.out (A.length - g) W (by omega)
      have e : ((A.length - g : Nat) : Int) = (A.length : Int) - g := by omega
      rwa [e] at this
    subst h1
    have h2' : (g : Int) < A.length := by omega
    have hg0 : (0 : Int) ≤ g := by omega
    have hg1 : (g : Int) ≤ A.length := by omega
    have hw1 : IntKind.i64.wrap ((A.length : Int) - 1) = (A.length : Int) - 1 := IntWalk.i64_in _ ⟨by omega, by omega⟩
    have hw2 : IntKind.i64.wrap ((A.length : Int) - g) = (A.length : Int) - g := IntWalk.i64_in _ ⟨by omega, by omega⟩
    obtain ⟨d0, hd0⟩ : ∃ d, Lib.decDigits g = d := ⟨_, rfl⟩
    obtain ⟨d1, hd1⟩ : ∃ d, Lib.decDigits (A.length - 1) = d := ⟨_, rfl⟩
    obtain ⟨d2, hd2⟩ : ∃ d, Lib.decDigits (A.length - g) = d := ⟨_, rfl⟩
    rw [hd0] at N0
    rw [hd1] at N1
    rw [hd2] at N2
    have hl0 : d0.length ≤ 9 := by rw [← hd0]; exact dd_length _ (by omega)
    have hl1 : d1.length ≤ 9 := by rw [← hd1]; exact dd_length _ (by omega)
    have hl2 : d2.length ≤ 9 := by rw [← hd2]; exact dd_length _ (by omega)
    have HD0 := Lib.hid hd0
    have HD1 := Lib.hid hd1
    have HD2 := Lib.hid hd2
    have hk0 := K1.out
    clear hd0 hd1 hd2
    go_upto_region 5 with (fail)
    go_region_with (first
        | (go_at_call 27; (with_reducible refine (N0.out _).mono ?_); rintro e w2 ⟨rfl, k2⟩)
        | (go_at_call 27; (with_reducible refine (N1.out _).mono ?_); rintro e w2 ⟨rfl, k2⟩)
        | (go_at_call 27; (with_reducible refine (N2.out _).mono ?_); rintro e w2 ⟨rfl, k2⟩))
    all_goals
      go_wp2_with (fail)
      go_ret
      refine ⟨?_, ?_⟩
      · rw [hX.out]; unfold partH fldL spanL; rw [HDA.out, HD0.out, HD1.out, HD2.out]; simp [l206, nCL, nCR, nl, bytesL, go_sem]
      · clear HN N0 N1 N2 HX hX
        repeat (first | exact hk0 | exact hk0.drew | refine Kept.back (by assumption) ?_)
  · have hX : Hid (x = wholeH A.length ++ A) := Lib.hid (by rw [← HX.out]; unfold respF; rw [if_neg (by omega), if_neg (by omega), if_neg (by omega), if_neg (by omega)])
    subst h1
    have h2' : (A.length : Int) ≤ g := by omega
    go_wp2_with (fail)
    go_ret
    exact ⟨by rw [hX.out]; unfold wholeH fldL; rw [HDA.out]; simp [l200, nCL, nl], K1.out⟩
  · have hX : Hid (x = chunkH ++ chunksB A) := Lib.hid (by rw [← HX.out]; unfold respF; rw [if_neg (by omega), if_pos h1])
    subst h1
    have NK : Hid (∀ (n : Nat) W, n ≤ 9 → Calls Tryz.prog 27 #[I n] W fun e w' => e = .returned (S (Lib.decDigits n)) ∧ Kept [] W w') := Lib.hid fun n W h => HN.out n W (by omega)
    clear HN
    go_wp2_with (fail)
    go_loopw [8, 9] (fun s i wr => ∃ j : Nat, 9 * j ≤ A.length + 8 ∧ i = I (9 * j : Nat) ∧ s = S (chunkH ++ chunkPre A j) ∧ Kept [] w wr) (fun _ i _ => A.length + 9 - (intOf i).toNat)
    case atStart => exact ⟨0, by omega, rfl, rfl, K1.out⟩
    case round =>
      obtain ⟨j, hj, rfl, rfl, hk⟩ := hrel
      have HK := Lib.hid hk
      clear hk
      obtain ⟨m, hm⟩ : ∃ m, 9 * j = m := ⟨_, rfl⟩
      obtain ⟨pre, hpre⟩ : ∃ q, chunkH ++ chunkPre A j = q := ⟨_, rfl⟩
      have HP : Hid (chunkH ++ chunkPre A (j + 1) = pre ++ pieceL ((A.drop m).take 9)) := Lib.hid (by rw [← hpre, ← hm]; show chunkH ++ (chunkPre A j ++ _) = _; rw [List.append_assoc])
      have HPR := Lib.hid (And.intro hpre hm)
      rw [hpre, hm]
      have hmj := hj
      rw [hm] at hmj
      have hmI : (m : Int) ≤ A.length + 8 := by omega
      clear hpre hm hj hmj
      have hl1 : pre.length ≤ 8000 := by have := chunkPre_le A j; have := HPR.out; rw [← this.1, List.length_append, show chunkH.length = 47 from by decide]; omega
      by_cases hlt : (m : Int) < A.length
      · obtain ⟨n, hn⟩ : ∃ n : Nat, min (9 : Int) ((A.length : Int) - m) = n := ⟨(min (9 : Int) ((A.length : Int) - m)).toNat, by omega⟩
        obtain ⟨y, hy⟩ : ∃ y, (A.take (m + n)).drop m = y := ⟨_, rfl⟩
        have hyl : y.length = n := by rw [← hy]; simp; omega
        have hy9 : (A.drop m).take 9 = y := by
          rw [← hy, List.drop_take, Nat.add_sub_cancel_left]
          by_cases h9 : 9 ≤ A.length - m
          · have : n = 9 := by omega
            rw [this]
          · have : n = A.length - m := by omega
            rw [this, List.take_of_length_le (l := A.drop m) (i := A.length - m) (by simp), List.take_of_length_le (by simp; omega)]
        have HY := Lib.hid (And.intro hy (And.intro hyl hy9))
        have hn9 : n ≤ 9 := by omega
        have hmn : (m : Int) + n ≤ A.length := by omega
        have hm0 : (0 : Int) ≤ m := by omega
        have hmle : (m : Int) ≤ (m : Int) + n := by omega
        have hw1 : IntKind.i64.wrap ((m : Int) + n) = (m : Int) + n := IntWalk.i64_in _ ⟨by omega, by omega⟩
        obtain ⟨dn, hdn⟩ : ∃ d, Lib.decDigits n = d := ⟨_, rfl⟩
        have NN := Lib.hid (fun W => NK.out n W hn9)
        rw [hdn] at NN
        have hl0 : dn.length ≤ 9 := by rw [← hdn]; exact dd_length _ (by omega)
        have HDN := Lib.hid hdn
        clear hy hyl hy9 hdn
        go_upto_region 12 with (fail)
        have hk0 := HK.out
        go_region_with (first | (go_at_call 27; (with_reducible refine (NN.out _).mono ?_); rintro e w2 ⟨rfl, k2⟩))
        all_goals
          have K2 := Lib.hid (hk0.drew.trans' k2)
          go_wp2_with (fail)
          go_roundw
          case rel =>
            refine ⟨j + 1, ?_, ?_, ?_, K2.out⟩
            · have := HPR.out.2; omega
            · have := HPR.out.2; go_num
            · rw [HP.out, HY.out.2.2]; unfold pieceL; rw [HY.out.2.1, HDN.out]; simp [nl]; exact HY.out.1
          case measure => simp [intOf]; omega
      · have hj2 : j = (A.length + 8) / 9 := by have := HPR.out.2; omega
        go_wp2_with (fail)
        go_ret
        exact ⟨by rw [hX.out]; unfold chunksB; rw [← hj2, ← List.append_assoc, HPR.out.1]; simp [zeroL], HK.out⟩
  · have hX : Hid (x = openH ++ A) := Lib.hid (by rw [← HX.out]; unfold respF; rw [if_neg (by omega), if_neg (by omega), if_pos h1])
    subst h1
    go_wp2_with (fail)
    go_ret
    exact ⟨by rw [hX.out]; simp [openH, l200, nl], K1.out⟩
  · have hX : Hid (x = busyH) := Lib.hid (by rw [← HX.out]; unfold respF; rw [if_neg (by omega), if_neg (by omega), if_neg (by omega), if_pos h1])
    subst h1
    go_wp2_with (fail)
    go_ret
    exact ⟨by rw [hX.out]; rfl, K1.out⟩
  · have hX : Hid (x = wholeH A.length ++ A) := Lib.hid (by rw [← HX.out]; unfold respF; rw [if_neg (by omega), if_neg (by omega), if_neg (by omega), if_neg (by omega)])
    have b1 : (k == 1) = false := by simpa using h1
    have b2 : (k == 2) = false := by simpa using h2
    have b3 : (k == 3) = false := by simpa using h3
    have b4 : (k == 4) = false := by simpa using h4
    clear h1 h2 h3 h4
    go_wp2_with (fail)
    go_ret
    exact ⟨by rw [hX.out]; unfold wholeH fldL; rw [HDA.out]; simp [l200, nCL, nl], K1.out⟩
end CL
end Go.Proofs.YtgdncdhalnijcaaGreatDoor
