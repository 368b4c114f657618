/- Walks and lemmas on the program of this seat, used by its statements; each theorem bears its own conditions. -/
import Derived.Test.YtgdncdhalnijcaaDoorRdJ
namespace Go.Proofs.YtgdncdhalnijcaaDoor
open Go.RowKit
set_option linter.unusedVariables false
set_option linter.unusedSimpArgs false
namespace BD
theorem foldOf_bd (n : Nat) (h : n < 128) : 0 ≤ foldOf n ∧ foldOf n ≤ 65535 := by unfold foldOf; (repeat' split) <;> omega
set_option maxRecDepth 100000 in
set_option maxHeartbeats 400000 in
theorem sfold_ascii (n : Nat) (w : World) (hn : n < 128) (hT : Tabs w) : Calls Tryd.prog 28 #[.int .i32 n] w fun e w' => e = .returned (.int .i32 (foldOf n)) ∧ w = w' := by
  have hc := hT.fold n hn
  obtain ⟨b0, b1⟩ := foldOf_bd n hn
  have hn' : (n : Int) < 128 := by omega
  clear hT
  go_enter Tryd.func28, Tryd.ntmps28
  go_wp2_with (fail)
  go_ret
  exact ⟨rfl, rfl⟩
theorem orbit_lo : ∀ m, (h : m < 94) → (m < 88 → orbit[m].1 < 8490) ∧ (88 ≤ m → 8490 ≤ orbit[m].1) ∧ 0 ≤ orbit[m].1 ∧ orbit[m].1 ≤ 65535 := by decide +kernel
set_option maxRecDepth 100000 in
set_option maxHeartbeats 1000000 in
theorem sfold_kelvin (w : World) (hT : Tabs w) : Calls Tryd.prog 28 #[.int .i32 8490] w fun e w' => e = .returned (.int .i32 75) ∧ w = w' := by
  obtain ⟨b, off, cap, h1, h2⟩ := hT.orb
  have H2 := Lib.hid h2
  clear hT h2
  go_enter Tryd.func28, Tryd.ntmps28
  go_wp2_with (fail)
  go_loop [3, 4] (fun lo hi => ∃ l h : Nat, lo = I l ∧ hi = I h ∧ l ≤ 88 ∧ 88 ≤ h ∧ h ≤ 94) (fun lo hi => (intOf hi).toNat - (intOf lo).toNat)
  case atStart => exact ⟨0, 94, rfl, rfl, by omega, by omega, by omega⟩
  case round =>
    obtain ⟨l, h, rfl, rfl, hl, hh, h94⟩ := hrel
    by_cases hlt : l < h
    · have hm : (l + h) / 2 < 94 := by omega
      have hc := (H2.out ((l + h) / 2) hm).1
      obtain ⟨q1, q2, q3, q4⟩ := orbit_lo ((l + h) / 2) hm
      generalize orbit[(l + h) / 2].1 = x at *
      have Q1 := Lib.hid q1
      have Q2 := Lib.hid q2
      clear q1 q2
      by_cases hx : x < 8490
      · have hm2 : (l + h) / 2 < 88 := by
          rcases Nat.lt_or_ge ((l + h) / 2) 88 with h' | h'
          · exact h'
          · have := Q2.out h'; omega
        go_wp2_with (fail)
        go_round
        case rel => exact ⟨(l + h) / 2 + 1, h, by go_num, rfl, by omega, by omega, by omega⟩
        case measure => simp [intOf]; omega
      · have hm2 : 88 ≤ (l + h) / 2 := by
          rcases Nat.lt_or_ge ((l + h) / 2) 88 with h' | h'
          · have := Q1.out h'; omega
          · exact h'
        go_wp2_with (fail)
        go_round
        case rel => exact ⟨l, (l + h) / 2, rfl, by go_num, by omega, by omega, by omega⟩
        case measure => simp [intOf]; omega
    · obtain rfl : l = 88 := by omega
      obtain rfl : h = 88 := by omega
      obtain ⟨hc, hd⟩ := H2.out 88 (by decide)
      have e1 : orbit[88].1 = 8490 := by decide +kernel
      have e2 : orbit[88].2 = 75 := by decide +kernel
      rw [e1] at hc
      rw [e2] at hd
      clear e1 e2
      go_wp2_with (fail)
      go_ret
      exact ⟨rfl, rfl⟩
end BD
end Go.Proofs.YtgdncdhalnijcaaDoor
