/- Walks and lemmas on the program of this seat, used by its statements; each theorem bears its own conditions. -/
import Derived.Test.YthooohempokchaaDoorLeafA
import Derived.IntWalk
namespace Go.Proofs.YthooohempokchaaDoor
open Go.RowKit
set_option linter.unusedVariables false
set_option linter.unusedSimpArgs false
/-! ### Rune -/
theorem ris_at (n : Int) (w : World) (b : Bool) (h : WX.isR n = b) : Calls Tryd.prog 43 #[I n] w fun e w' => e = .returned (.bool b) ∧ w = w' := h ▸ ris_any n w
def runeF (l : List UInt8) : Nat × Nat := if WX.isOk l = true then WX.dec l else (0, 0)
set_option maxRecDepth 100000 in
set_option maxHeartbeats 2000000 in
theorem rrune_any (l : List UInt8) (p : Nat) (w : World) (hp : p < l.length) (hl : l.length ≤ 4611686018427387904) :
    Calls Tryd.prog 25 #[S l, I p] w fun e w' => e = .returned (.tuple #[I (runeF (l.drop p)).1, I (runeF (l.drop p)).2]) ∧ Kept [] w w' := by
  have hne : l.drop p ≠ [] := by intro e; have h2 := congrArg List.length e; rw [List.length_drop, List.length_nil] at h2; omega
  have hit := WX.hit_iff (l.drop p) hne
  have hw := WX.dec_width (l.drop p) hne
  have HH := Lib.hid (And.intro hit hw)
  have hp' : (p : Int) < l.length := by omega
  have hl' : (l.length : Int) ≤ 4611686018427387904 := by omega
  clear hit hw hne
  go_enter Tryd.func25, Tryd.ntmps25
  go_wp2
  go_loopw [6] (fun m wr => ∃ k : Nat, k ≤ 4 ∧ m = I (k + 1 : Nat) ∧ p + k ≤ l.length ∧ Kept [] w wr ∧ ¬ (WX.isOk (l.drop p) = true ∧ (WX.dec (l.drop p)).2 ≤ k)) (fun m _ => 8 - (intOf m).toNat)
  case atStart => exact ⟨0, by omega, rfl, by omega, Kept.refl _ _, by intro h; have := HH.out.2; omega⟩
  case round =>
    obtain ⟨k, hk, rfl, hpk, hkw, hno⟩ := hrel
    have HK := Lib.hid hkw
    have HNO := Lib.hid hno
    clear hkw hno
    have hpk' : (p : Int) + k ≤ l.length := by omega
    by_cases h4 : k < 4 ∧ p + k < l.length
    · obtain ⟨h4, h5⟩ := h4
      have h4' : (k : Int) < 4 := by omega
      have h5' : (p : Int) + (k + 1) ≤ l.length := by omega
      go_wp2_with (fail)
      refine (guess_any l p (k + 1) _ (by omega) (by omega) (by omega) hl).mono ?_
      rintro e w1 ⟨rfl, rfl⟩
      have hiff := HH.out.1 (k + 1) (by omega) (by omega) (by rw [List.length_drop]; omega)
      have HI : Hid ((WX.hitB (l.drop p) (k + 1) = true) = (WX.isOk (l.drop p) = true ∧ (WX.dec (l.drop p)).2 = k + 1)) := by unfold Hid; exact propext hiff
      unfold WX.hitB at hiff
      generalize hg : WX.guessZ (l.drop p) (k + 1) = g at *
      have HG := Lib.hid hg
      clear hg
      cases hr : WX.isR g with
      | false =>
        have HR := Lib.hid hr
        clear hr hiff
        go_wp2_with (fail)
        go_quiet ((go_at_call 43; exact Calls.quiet_of_same ((ris_at g _ false HR.out).mono fun _ _ h => ⟨h.1, h.2.symm⟩)))
        go_wp2
        go_round
        case rel =>
          refine ⟨k + 1, by omega, by go_num, by omega, HK.out.drewN _, fun h => HNO.out ⟨h.1, ?_⟩⟩
          rcases Nat.lt_or_ge k (WX.dec (l.drop p)).2 with h6 | h6
          · have h7 : WX.hitB (l.drop p) (k + 1) = true := by rw [HI.out]; exact ⟨h.1, by omega⟩
            unfold WX.hitB at h7
            rw [HG.out, HR.out] at h7
            simp at h7
          · exact h6
        case measure => simp [intOf]; omega
      | true =>
        have HR := Lib.hid hr
        clear hr hiff
        have q1 : (p : Int) ≤ (p : Int) + ((k : Int) + 1) := by omega
        have q2 : (0 : Int) ≤ (p : Int) + ((k : Int) + 1) := by omega
        have q3 : ((p : Int) + ((k : Int) + 1)).toNat = p + (k + 1) := by omega
        have q4 : IntKind.i64.wrap ((p : Int) + ((k : Int) + 1)) = (p : Int) + ((k : Int) + 1) := IntWalk.i64_in _ (by omega)
        go_wp2_with (fail)
        go_region_with ((first | (go_at_call 43; refine (ris_at g _ true HR.out).mono ?_; rintro e w1 ⟨rfl, rfl⟩) | (go_at_call 44; refine (rbytes_any g _ HR.out).mono ?_; rintro e w1 ⟨rfl, k1⟩)))
        all_goals
          clear q1 q2 q3 q4
          have ec : (Lib.encodeRune g == List.drop p (List.take (p + (k + 1)) l)) = (Lib.encodeRune g == (l.drop p).take (k + 1)) := by rw [List.take_drop]
          cases hb : (Lib.encodeRune g == List.drop p (List.take (p + (k + 1)) l)) with
          | true =>
            have h7 : WX.hitB (l.drop p) (k + 1) = true := by
              unfold WX.hitB; rw [HG.out, HR.out, ← ec, hb]; rfl
            rw [HI.out] at h7
            have hne : l.drop p ≠ [] := by intro e; have h2 := congrArg List.length e; rw [List.length_drop, List.length_nil] at h2; omega
            have h8 := WX.guess_dec (l.drop p) hne h7.1
            rw [h7.2, HG.out] at h8
            have hf : runeF (l.drop p) = ((WX.dec (l.drop p)).1, k + 1) := by unfold runeF; rw [if_pos h7.1, ← h7.2]
            have HF := Lib.hid hf
            have H8 := Lib.hid h8
            have K1 := HK.out.drew.trans' k1
            clear ec h7 hne h8 hf
            go_wp2
            go_ret2
            refine ⟨?_, by first | exact K1 | exact K1.drew | exact HK.out.trans' k1⟩
            rw [HF.out, H8.out]; rfl
          | false =>
            have K1 := HK.out.drew.trans' k1
            have EC := Lib.hid (ec.symm.trans hb)
            clear ec
            go_wp2
            go_roundw
            case rel =>
              refine ⟨k + 1, by omega, by go_num, by omega, by first | exact K1 | exact K1.drew | exact HK.out.trans' k1, fun h => HNO.out ⟨h.1, ?_⟩⟩
              rcases Nat.lt_or_ge k (WX.dec (l.drop p)).2 with h6 | h6
              · have h7 : WX.hitB (l.drop p) (k + 1) = true := by rw [HI.out]; exact ⟨h.1, by omega⟩
                unfold WX.hitB at h7
                rw [HG.out, HR.out, EC.out] at h7
                simp at h7
              · exact h6
            case measure => simp [intOf]; omega
    · have hb := HH.out.2
      rw [List.length_drop] at hb
      have hnot : ¬ WX.isOk (l.drop p) = true := fun h => HNO.out ⟨h, by omega⟩
      have hf : runeF (l.drop p) = (0, 0) := by unfold runeF; rw [if_neg hnot]
      have HF := Lib.hid hf
      clear hb hnot hf
      by_cases h5 : k < 4
      · have h6 : decide ((p : Int) + ((k : Int) + 1) ≤ (l.length : Int)) = false := by rw [decide_eq_false_iff_not]; omega
        have h5' : (k : Int) < 4 := by omega
        clear h4
        go_wp2
        go_ret2
        exact ⟨by rw [HF.out]; rfl, HK.out⟩
      · have h5' : ¬ (k : Int) < 4 := by omega
        clear h4
        go_wp2
        go_ret2
        exact ⟨by rw [HF.out]; rfl, HK.out⟩
end Go.Proofs.YthooohempokchaaDoor
