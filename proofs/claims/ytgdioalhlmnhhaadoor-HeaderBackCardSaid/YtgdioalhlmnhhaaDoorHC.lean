/- Walks and lemmas on the program of this seat, used by its statements; each theorem bears its own conditions. -/
import Derived.Test.YtgdioalhlmnhhaaDoorHB
import Derived.Handy
import Derived.Deep.CutRange
import Derived.Lib.IndexLaws
namespace Go.Proofs.YtgdioalhlmnhhaaDoor
open Go.RowKit
set_option linter.unusedVariables false
set_option linter.unusedSimpArgs false
set_option maxHeartbeats 8000000
set_option maxRecDepth 100000
/-! ### token -/
theorem or_all : ∀ n : Nat, n < 256 → (letC (UInt8.ofNat n) = true ∧ 97 ≤ bits .or .u8 (n : Int) 32 ∧ bits .or .u8 (n : Int) 32 ≤ 122) ∨ (letC (UInt8.ofNat n) = false ∧ ¬ 97 ≤ bits .or .u8 (n : Int) 32) ∨ (letC (UInt8.ofNat n) = false ∧ 97 ≤ bits .or .u8 (n : Int) 32 ∧ ¬ bits .or .u8 (n : Int) 32 ≤ 122) := by decide
theorem or_ways (c : UInt8) : (letC c = true ∧ 97 ≤ bits .or .u8 (c.toNat : Int) 32 ∧ bits .or .u8 (c.toNat : Int) 32 ≤ 122) ∨ (letC c = false ∧ ¬ 97 ≤ bits .or .u8 (c.toNat : Int) 32) ∨ (letC c = false ∧ 97 ≤ bits .or .u8 (c.toNat : Int) 32 ∧ ¬ bits .or .u8 (c.toNat : Int) 32 ≤ 122) := by
  have := or_all c.toNat c.toNat_lt
  rwa [UInt8.ofNat_toNat] at this
theorem indexByte_in (l : List UInt8) (c : UInt8) : (Lib.indexByte l c < 0) = (l.contains c = false) := by
  have hg := Lib.indexByte_ge l c
  apply propext
  constructor
  · intro h
    have h1 : Lib.indexByte l c = -1 := by omega
    have h2 := Lib.indexByte_none h1
    cases hc : l.contains c with
    | false => rfl
    | true =>
      obtain ⟨i, hi⟩ := List.getElem?_of_mem (by simpa using hc : c ∈ l)
      exact absurd hi (h2 i)
  · intro h
    rcases Int.lt_or_le (Lib.indexByte l c) 0 with h1 | h1
    · exact h1
    · have h2 : Lib.indexByte l c = ((Lib.indexByte l c).toNat : Nat) := by omega
      have h3 := (Lib.indexByte_some h2).1
      have := List.mem_of_getElem? h3
      simp at h; exact absurd this h
theorem token_any (s : List UInt8) (w : World) (hs : s.length ≤ 9223372036854775807) :
    Calls Tryd.prog 81 #[S s] w fun e w' => e = .returned (.bool (tokB s)) ∧ w = w' := by
  have hs' : (s.length : Int) ≤ 9223372036854775807 := by omega
  go_enter Tryd.func81, Tryd.ntmps81
  go_wp2_with (fail)
  go_loop [3, 4, 5, 8] (fun _ _ _ i => ∃ k : Nat, k ≤ s.length ∧ i = I k ∧ (s.take k).all tokC = true) (fun _ _ _ i => s.length - (intOf i).toNat)
  case atStart => exact ⟨0, by omega, rfl, rfl⟩
  case round =>
    obtain ⟨k, hk, rfl, hall⟩ := hrel
    have HA := Lib.hid hall
    clear hall
    by_cases hlt : k < s.length
    · have hlt' : (k : Int) < s.length := by omega
      have HT := Lib.hid (allTake tokC s k hlt)
      have HH := Lib.hid (all_hit (p := tokC) s k hlt)
      obtain ⟨c, hc⟩ : ∃ c, byteAt s k = c := ⟨_, rfl⟩
      rw [hc] at HT HH
      have hcl : (0 : Int) ≤ c.toNat := by omega
      have hdg : digC c = (decide (48 ≤ c.toNat) && decide (c.toNat ≤ 57)) := rfl
      have htok : tokC c = (letC c || (digC c || signsL.contains c)) := rfl
      rcases or_ways c with ⟨hv, h1, h2⟩ | hrest
      · have HV : Hid (tokC c = true) := Lib.hid (by rw [htok, hv]; rfl)
        clear hv hdg htok
        go_wp2_with (fail)
        go_round
        case rel => exact ⟨k + 1, by omega, by go_num, by rw [HT.out, HA.out, HV.out]; rfl⟩
        case measure => simp [intOf]; omega
      · cases hd : digC c with
        | true =>
          obtain ⟨d1, d2⟩ := digC_yes hd
          have d1' : ¬ (c.toNat : Int) < 48 := by omega
          have d2' : ¬ (c.toNat : Int) > 57 := by omega
          have HV : Hid (tokC c = true) := Lib.hid (by rw [htok, hd]; simp)
          clear hdg htok hd
          rcases hrest with ⟨_, h1⟩ | ⟨_, h1, h2⟩
          · go_wp2_with (fail)
            go_round
            case rel => exact ⟨k + 1, by omega, by go_num, by rw [HT.out, HA.out, HV.out]; rfl⟩
            case measure => simp [intOf]; omega
          · go_wp2_with (fail)
            go_round
            case rel => exact ⟨k + 1, by omega, by go_num, by rw [HT.out, HA.out, HV.out]; rfl⟩
            case measure => simp [intOf]; omega
        | false =>
          have hl : letC c = false := by rcases hrest with ⟨h, _⟩ | ⟨h, _⟩ <;> exact h
          rw [hl, hd] at htok
          have hix := indexByte_in signsL c
          obtain ⟨x, hx⟩ : ∃ x, Lib.indexByte signsL c = x := ⟨_, rfl⟩
          rw [hx] at hix
          have HIX := Lib.hid hix
          have HTK := Lib.hid htok
          have d12 := digC_no hd
          have HC : Hid (Calls Tryd.prog 46 #[S [33, 35, 36, 37, 38, 39, 42, 43, 45, 46, 94, 95, 96, 124, 126], B c] w fun e w' => e = .returned (I x) ∧ w = w') := Lib.hid (by
            have h1 := Tryd.strings_IndexByte ⟨#[33, 35, 36, 37, 38, 39, 42, 43, 45, 46, 94, 95, 96, 124, 126]⟩ (c.toNat : Int) w
            have h2 : ((c.toNat : Int)).toNat.toUInt8 = c := by simp
            rw [h2] at h1
            rw [← hx]; exact h1.mono fun e w' h => ⟨h.1, h.2.symm⟩)
          clear hx hix htok hd hdg hl
          by_cases hneg : x < 0
          · have HF : Hid (tokB s = false) := Lib.hid (by
              have h1 : signsL.contains c = false := by rw [← HIX.out]; exact hneg
              have h2 : tokC c = false := by rw [HTK.out, h1]; rfl
              unfold tokB; rw [HH.out h2]; rfl)
            rcases hrest with ⟨_, h1⟩ | ⟨_, h1, h2⟩
            · go_wp2_with ((go_at_call 46; (with_reducible refine HC.out.mono ?_); rintro r w5 ⟨rfl, rfl⟩))
              all_goals first
                | (exfalso; omega)
                | (go_ret; exact ⟨ret_B HF.out.symm, rfl⟩)
            · go_wp2_with ((go_at_call 46; (with_reducible refine HC.out.mono ?_); rintro r w5 ⟨rfl, rfl⟩))
              all_goals first
                | (exfalso; omega)
                | (go_ret; exact ⟨ret_B HF.out.symm, rfl⟩)
          · have HV : Hid (tokC c = true) := Lib.hid (by
              have h1 : signsL.contains c = true := by
                cases h : signsL.contains c with
                | true => rfl
                | false => rw [← HIX.out] at h; exact absurd h hneg
              rw [HTK.out, h1]; rfl)
            rcases hrest with ⟨_, h1⟩ | ⟨_, h1, h2⟩
            · go_wp2_with ((go_at_call 46; (with_reducible refine HC.out.mono ?_); rintro r w5 ⟨rfl, rfl⟩))
              all_goals first
                | (exfalso; omega)
                | (go_round
                   case rel => exact ⟨k + 1, by omega, by go_num, by rw [HT.out, HA.out, HV.out]; rfl⟩
                   case measure => simp [intOf]; omega)
            · go_wp2_with ((go_at_call 46; (with_reducible refine HC.out.mono ?_); rintro r w5 ⟨rfl, rfl⟩))
              all_goals first
                | (exfalso; omega)
                | (go_round
                   case rel => exact ⟨k + 1, by omega, by go_num, by rw [HT.out, HA.out, HV.out]; rfl⟩
                   case measure => simp [intOf]; omega)
    · have hlt' : ¬ (k : Int) < s.length := by omega
      have HF : Hid (tokB s = !s.isEmpty) := Lib.hid (by
        have ha := HA.out
        rw [List.take_of_length_le (by omega)] at ha
        unfold tokB; rw [ha]; rfl)
      by_cases hn : s = []
      · subst hn
        go_wp2_with (fail)
        go_ret
        exact ⟨ret_B (by rw [HF.out]; rfl), rfl⟩
      · have hse : (!s.isEmpty) = true := by simpa using hn
        have HSE := Lib.hid hse
        clear hn
        go_wp2_with (fail)
        go_ret
        exact ⟨ret_B (by rw [HF.out, HSE.out]), rfl⟩
end Go.Proofs.YtgdioalhlmnhhaaDoor
