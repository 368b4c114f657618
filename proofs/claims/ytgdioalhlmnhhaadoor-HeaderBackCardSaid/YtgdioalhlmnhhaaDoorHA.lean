/- Walks and lemmas on the program of this seat, used by its statements; each theorem bears its own conditions. -/
import Derived.Test.YtgdioalhlmnhhaaDoorHX
import Derived.Handy
namespace Go.Proofs.YtgdioalhlmnhhaaDoor
open Go.RowKit
set_option linter.unusedVariables false
set_option linter.unusedSimpArgs false
/-! ### Texts that may be: visible, seen, text, ok -/
theorem allTake (p : UInt8 → Bool) (l : List UInt8) (k : Nat) (h : k < l.length) : (l.take (k + 1)).all p = ((l.take k).all p && p (byteAt l k)) := by
  rw [List.take_succ_eq_append_getElem h, List.all_append, byteAt_eq l k h]; simp
theorem all_hit {p : UInt8 → Bool} (l : List UInt8) (k : Nat) (h : k < l.length) (hp : p (byteAt l k) = false) : l.all p = false := by
  rw [byteAt_eq l k h] at hp
  rw [List.all_eq_false]; exact ⟨l[k], List.getElem_mem _, by simp [hp]⟩
theorem byteAt_lt (l : List UInt8) (k : Nat) : ((byteAt l k).toNat : Int) < 256 := by have := (byteAt l k).toNat_lt; omega
set_option maxHeartbeats 4000000
set_option maxRecDepth 100000
theorem vis_any (s : List UInt8) (w : World) (hs : s.length ≤ 9223372036854775807) :
    Calls Tryd.prog 68 #[S s] w fun e w' => e = .returned (.bool (visB s)) ∧ w = w' := by
  have hs' : (s.length : Int) ≤ 9223372036854775807 := by omega
  go_enter Tryd.func68, Tryd.ntmps68
  go_wp2_with (fail)
  go_loop [3, 6] (fun _ i => ∃ k : Nat, k ≤ s.length ∧ i = I k ∧ (s.take k).all visC = true) (fun _ i => s.length - (intOf i).toNat)
  case atStart => exact ⟨0, by omega, rfl, rfl⟩
  case round =>
    obtain ⟨k, hk, rfl, hall⟩ := hrel
    have HA := Lib.hid hall
    clear hall
    by_cases hlt : k < s.length
    · have hlt' : (k : Int) < s.length := by omega
      have HT := Lib.hid (allTake visC s k hlt)
      have HH := Lib.hid (all_hit (p := visC) s k hlt)
      obtain ⟨c, hc⟩ : ∃ c, byteAt s k = c := ⟨_, rfl⟩
      rw [hc] at HT HH
      have hcl : (0 : Int) ≤ c.toNat := by omega
      by_cases h1 : 33 ≤ c.toNat ∧ c.toNat ≤ 126
      · have hv : visC c = true := by simp [visC, h1]
        obtain ⟨h1, h2⟩ := h1
        have h1' : ¬ (c.toNat : Int) < 33 := by omega
        have h2' : ¬ (c.toNat : Int) > 126 := by omega
        have HV := Lib.hid hv
        clear hv
        go_wp2_with (fail)
        go_round
        case rel => exact ⟨k + 1, by omega, by go_num, by rw [HT.out, HA.out, HV.out]; rfl⟩
        case measure => simp [intOf]; omega
      · have hv : visC c = false := by unfold visC; rw [Bool.and_eq_false_iff, decide_eq_false_iff_not, decide_eq_false_iff_not]; omega
        have HF : Hid (visB s = false) := Lib.hid (by unfold visB; rw [HH.out hv]; rfl)
        clear hv
        go_wp2_with (fail)
        all_goals first
          | (exfalso; omega)
          | (go_ret; exact ⟨ret_B HF.out.symm, rfl⟩)
    · have hlt' : ¬ (k : Int) < s.length := by omega
      have ht : s.take k = s := List.take_of_length_le (by omega)
      have ha := HA.out
      rw [ht] at ha
      have HF : Hid (visB s = (decide (1 ≤ s.length) && decide (s.length ≤ 64))) := Lib.hid (by unfold visB; rw [ha]; simp)
      clear ht ha
      by_cases hn : s = []
      · subst hn
        go_wp2_with (fail)
        go_ret
        exact ⟨ret_B (by rw [HF.out]; rfl), rfl⟩
      · have hp : 1 ≤ s.length := List.length_pos_iff.2 hn
        have hse : (!s.isEmpty) = true := by simpa using hn
        clear hn
        by_cases h64 : s.length ≤ 64
        · have h64' : (s.length : Int) ≤ 64 := by omega
          go_wp2_with (fail)
          go_ret
          exact ⟨ret_B (by rw [HF.out]; simp; omega), rfl⟩
        · have h64' : ¬ (s.length : Int) ≤ 64 := by omega
          go_wp2_with (fail)
          go_ret
          exact ⟨ret_B (by rw [HF.out]; simp; omega), rfl⟩
theorem seen_any (s : List UInt8) (w : World) (hs : s.length ≤ 9223372036854775807) :
    Calls Tryd.prog 70 #[S s] w fun e w' => e = .returned (.bool (visB s)) ∧ w = w' := by
  have hs' : (s.length : Int) ≤ 9223372036854775807 := by omega
  go_enter Tryd.func70, Tryd.ntmps70
  go_wp2_with (fail)
  go_loop [3] (fun i => ∃ k : Nat, k ≤ s.length ∧ i = I k ∧ (s.take k).all visC = true) (fun i => s.length - (intOf i).toNat)
  case atStart => exact ⟨0, by omega, rfl, rfl⟩
  case round =>
    obtain ⟨k, hk, rfl, hall⟩ := hrel
    have HA := Lib.hid hall
    clear hall
    by_cases hlt : k < s.length
    · have hlt' : (k : Int) < s.length := by omega
      have HT := Lib.hid (allTake visC s k hlt)
      have HH := Lib.hid (all_hit (p := visC) s k hlt)
      obtain ⟨c, hc⟩ : ∃ c, byteAt s k = c := ⟨_, rfl⟩
      rw [hc] at HT HH
      have hcl : (0 : Int) ≤ c.toNat := by omega
      by_cases h1 : 33 ≤ c.toNat ∧ c.toNat ≤ 126
      · have hv : visC c = true := by simp [visC, h1]
        obtain ⟨h1, h2⟩ := h1
        have h1' : ¬ (c.toNat : Int) ≤ 32 := by omega
        have h2' : ¬ (c.toNat : Int) ≥ 127 := by omega
        have HV := Lib.hid hv
        clear hv
        go_wp2_with (fail)
        go_round
        case rel => exact ⟨k + 1, by omega, by go_num, by rw [HT.out, HA.out, HV.out]; rfl⟩
        case measure => simp [intOf]; omega
      · have hv : visC c = false := by unfold visC; rw [Bool.and_eq_false_iff, decide_eq_false_iff_not, decide_eq_false_iff_not]; omega
        have HF : Hid (visB s = false) := Lib.hid (by unfold visB; rw [HH.out hv]; rfl)
        clear hv
        go_wp2_with (fail)
        all_goals first
          | (exfalso; omega)
          | (go_ret; exact ⟨ret_B HF.out.symm, rfl⟩)
    · have hlt' : ¬ (k : Int) < s.length := by omega
      have ht : s.take k = s := List.take_of_length_le (by omega)
      have ha := HA.out
      rw [ht] at ha
      have HF : Hid (visB s = (decide (1 ≤ s.length) && decide (s.length ≤ 64))) := Lib.hid (by unfold visB; rw [ha]; simp)
      clear ht ha
      by_cases hn : 1 ≤ s.length
      · have hn' : (s.length : Int) ≥ 1 := by omega
        by_cases h64 : s.length ≤ 64
        · have h64' : (s.length : Int) ≤ 64 := by omega
          go_wp2_with (fail)
          go_ret
          exact ⟨ret_B (by rw [HF.out]; simp; omega), rfl⟩
        · have h64' : ¬ (s.length : Int) ≤ 64 := by omega
          go_wp2_with (fail)
          go_ret
          exact ⟨ret_B (by rw [HF.out]; simp; omega), rfl⟩
      · have hn' : ¬ (s.length : Int) ≥ 1 := by omega
        go_wp2_with (fail)
        go_ret
        exact ⟨ret_B (by rw [HF.out]; simp; omega), rfl⟩
theorem textC_ways (c : UInt8) : (textC c = true ∧ ((c.toNat : Int) != 9) = false ∧ (c.toNat : Int) < 32 ∧ ((c.toNat : Int) == 127) = false) ∨ (textC c = true ∧ ((c.toNat : Int) != 9) = true ∧ ¬ (c.toNat : Int) < 32 ∧ ((c.toNat : Int) == 127) = false) ∨
    (textC c = false ∧ ((c.toNat : Int) != 9) = true ∧ (c.toNat : Int) < 32 ∧ ((c.toNat : Int) == 127) = false) ∨ (textC c = false ∧ ((c.toNat : Int) != 9) = true ∧ ¬ (c.toNat : Int) < 32 ∧ ((c.toNat : Int) == 127) = true) := by
  unfold textC
  by_cases h9 : c.toNat = 9
  · left; rw [h9]; decide
  · have e9 : ((c.toNat : Int) != 9) = true := by rw [bne_iff_ne]; omega
    have f9 : (c.toNat == 9) = false := by rw [beq_eq_false_iff_ne]; exact h9
    by_cases h32 : c.toNat < 32
    · have h7 : ((c.toNat : Int) == 127) = false := by rw [beq_eq_false_iff_ne]; omega
      right; right; left
      refine ⟨by rw [f9]; simp; omega, e9, by omega, h7⟩
    · by_cases h7 : c.toNat = 127
      · right; right; right
        refine ⟨by rw [f9, h7]; rfl, e9, by omega, by rw [beq_iff_eq]; omega⟩
      · right; left
        refine ⟨by rw [f9]; simp; omega, e9, by omega, by rw [beq_eq_false_iff_ne]; omega⟩
theorem text_any (s : List UInt8) (w : World) (hs : s.length ≤ 9223372036854775807) :
    Calls Tryd.prog 82 #[S s] w fun e w' => e = .returned (.bool (textB s)) ∧ w = w' := by
  have hs' : (s.length : Int) ≤ 9223372036854775807 := by omega
  go_enter Tryd.func82, Tryd.ntmps82
  go_wp2_with (fail)
  go_loop [3, 6] (fun _ i => ∃ k : Nat, k ≤ s.length ∧ i = I k ∧ (s.take k).all textC = true) (fun _ i => s.length - (intOf i).toNat)
  case atStart => exact ⟨0, by omega, rfl, rfl⟩
  case round =>
    obtain ⟨k, hk, rfl, hall⟩ := hrel
    have HA := Lib.hid hall
    clear hall
    by_cases hlt : k < s.length
    · have hlt' : (k : Int) < s.length := by omega
      have HT := Lib.hid (allTake textC s k hlt)
      have HH := Lib.hid (all_hit (p := textC) s k hlt)
      obtain ⟨c, hc⟩ : ∃ c, byteAt s k = c := ⟨_, rfl⟩
      rw [hc] at HT HH
      have hcl : (0 : Int) ≤ c.toNat := by omega
      rcases textC_ways c with ⟨hv, h1, h2, h3⟩ | ⟨hv, h1, h2, h3⟩ | ⟨hv, h1, h2, h3⟩ | ⟨hv, h1, h2, h3⟩
      · have HV := Lib.hid hv
        clear hv
        go_wp2_with (fail)
        go_round
        case rel => exact ⟨k + 1, by omega, by go_num, by rw [HT.out, HA.out, HV.out]; rfl⟩
        case measure => simp [intOf]; omega
      · have HV := Lib.hid hv
        clear hv
        go_wp2_with (fail)
        go_round
        case rel => exact ⟨k + 1, by omega, by go_num, by rw [HT.out, HA.out, HV.out]; rfl⟩
        case measure => simp [intOf]; omega
      · have HF : Hid (textB s = false) := Lib.hid (HH.out hv)
        clear hv
        go_wp2_with (fail)
        all_goals (go_ret; exact ⟨ret_B HF.out.symm, rfl⟩)
      · have HF : Hid (textB s = false) := Lib.hid (HH.out hv)
        clear hv
        go_wp2_with (fail)
        all_goals (go_ret; exact ⟨ret_B HF.out.symm, rfl⟩)
    · have hlt' : ¬ (k : Int) < s.length := by omega
      have HF : Hid (textB s = true) := Lib.hid (by have ha := HA.out; rw [List.take_of_length_le (by omega)] at ha; exact ha)
      go_wp2_with (fail)
      go_ret
      exact ⟨ret_B HF.out.symm, rfl⟩
theorem ok_any (s : List UInt8) (w : World) (hs : s.length ≤ 9223372036854775807) :
    Calls Tryd.prog 74 #[S s] w fun e w' => e = .returned (.bool (textB s)) ∧ w = w' := by
  have hs' : (s.length : Int) ≤ 9223372036854775807 := by omega
  go_enter Tryd.func74, Tryd.ntmps74
  go_wp2_with (fail)
  go_loop [3] (fun i => ∃ k : Nat, k ≤ s.length ∧ i = I k ∧ (s.take k).all textC = true) (fun i => s.length - (intOf i).toNat)
  case atStart => exact ⟨0, by omega, rfl, rfl⟩
  case round =>
    obtain ⟨k, hk, rfl, hall⟩ := hrel
    have HA := Lib.hid hall
    clear hall
    by_cases hlt : k < s.length
    · have hlt' : (k : Int) < s.length := by omega
      have HT := Lib.hid (allTake textC s k hlt)
      have HH := Lib.hid (all_hit (p := textC) s k hlt)
      obtain ⟨c, hc⟩ : ∃ c, byteAt s k = c := ⟨_, rfl⟩
      rw [hc] at HT HH
      have hcl : (0 : Int) ≤ c.toNat := by omega
      rcases textC_ways c with ⟨hv, h1, h2, h3⟩ | ⟨hv, h1, h2, h3⟩ | ⟨hv, h1, h2, h3⟩ | ⟨hv, h1, h2, h3⟩
      · have HV := Lib.hid hv
        clear hv
        go_wp2_with (fail)
        go_round
        case rel => exact ⟨k + 1, by omega, by go_num, by rw [HT.out, HA.out, HV.out]; rfl⟩
        case measure => simp [intOf]; omega
      · have HV := Lib.hid hv
        clear hv
        go_wp2_with (fail)
        go_round
        case rel => exact ⟨k + 1, by omega, by go_num, by rw [HT.out, HA.out, HV.out]; rfl⟩
        case measure => simp [intOf]; omega
      · have HF : Hid (textB s = false) := Lib.hid (HH.out hv)
        clear hv
        go_wp2_with (fail)
        all_goals (go_ret; exact ⟨ret_B HF.out.symm, rfl⟩)
      · have HF : Hid (textB s = false) := Lib.hid (HH.out hv)
        clear hv
        go_wp2_with (fail)
        all_goals (go_ret; exact ⟨ret_B HF.out.symm, rfl⟩)
    · have hlt' : ¬ (k : Int) < s.length := by omega
      have HF : Hid (textB s = true) := Lib.hid (by have ha := HA.out; rw [List.take_of_length_le (by omega)] at ha; exact ha)
      go_wp2_with (fail)
      go_ret
      exact ⟨ret_B HF.out.symm, rfl⟩
theorem digC_yes {c : UInt8} (h : digC c = true) : 48 ≤ c.toNat ∧ c.toNat ≤ 57 := by simpa [digC] using h
theorem digC_no {c : UInt8} (h : digC c = false) : ¬ (48 ≤ c.toNat ∧ c.toNat ≤ 57) := by simp [digC] at h; omega
theorem digit_any (c : UInt8) (w : World) :
    Calls Tryd.prog 104 #[B c] w fun e w' => e = .returned (.bool (digC c)) ∧ w = w' := by
  by_cases h1 : (c.toNat : Int) ≥ 48
  · by_cases h2 : (c.toNat : Int) ≤ 57
    · go_enter Tryd.func104, Tryd.ntmps104
      go_wp2_with (fail)
      go_ret
      exact ⟨ret_B (by unfold digC; simp; omega), rfl⟩
    · go_enter Tryd.func104, Tryd.ntmps104
      go_wp2_with (fail)
      go_ret
      exact ⟨ret_B (by unfold digC; simp; omega), rfl⟩
  · go_enter Tryd.func104, Tryd.ntmps104
    go_wp2_with (fail)
    go_ret
    exact ⟨ret_B (by unfold digC; simp; omega), rfl⟩
theorem digit_at (c : UInt8) (w : World) (b : Bool) (h : digC c = b) : Calls Tryd.prog 104 #[B c] w fun e w' => e = .returned (.bool b) ∧ w = w' := h ▸ digit_any c w
end Go.Proofs.YtgdioalhlmnhhaaDoor
