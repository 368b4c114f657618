/- Walks and lemmas on the program of this seat, used by its statements; each theorem bears its own conditions. -/
import Derived.Test.YtgdioalhlmnhhaaDoorHA
import Derived.Test.YtgdioalhlmnhhaaDoorShelf
import Derived.Handy
import Derived.Deep.CutRange
namespace Go.Proofs.YtgdioalhlmnhhaaDoor
open Go.RowKit
set_option linter.unusedVariables false
set_option linter.unusedSimpArgs false
set_option maxHeartbeats 8000000
set_option maxRecDepth 100000
/-! ### Numbers of digits; the reference's token -/
def digsN (l : List UInt8) : Nat := l.foldl (fun n c => 10 * n + (c.toNat - 48)) 0
theorem digsN_snoc (l : List UInt8) (c : UInt8) : digsN (l ++ [c]) = 10 * digsN l + (c.toNat - 48) := by simp [digsN]
def numZ (l : List UInt8) : Int := if l.all digC then (digsN l : Int) else -1
theorem take_byteAt (l : List UInt8) (k : Nat) (h : k < l.length) : l.take (k + 1) = l.take k ++ [byteAt l k] := by
  rw [List.take_succ_eq_append_getElem h, byteAt_eq l k h]
theorem digsN_take_bd (l : List UInt8) (h : l.all digC = true) : ∀ k, k ≤ l.length → digsN (l.take k) < 10 ^ k
  | 0, _ => by simp [digsN]
  | k + 1, hk => by
    have ih := digsN_take_bd l h k (by omega)
    have hd := digC_yes ((List.all_eq_true.1 h) _ (List.getElem_mem (by omega : k < l.length)))
    rw [take_byteAt l k (by omega), digsN_snoc, Nat.pow_succ, byteAt_eq l k (by omega)]
    omega
theorem digsN_bd (l : List UInt8) (h : l.all digC = true) : digsN l < 10 ^ l.length := by
  have := digsN_take_bd l h l.length (Nat.le_refl _)
  rwa [List.take_length] at this
theorem pow10_3 (k : Nat) (h : k ≤ 3) : 10 ^ k ≤ 1000 := by
  have : k = 0 ∨ k = 1 ∨ k = 2 ∨ k = 3 := by omega
  rcases this with rfl | rfl | rfl | rfl <;> decide
theorem number_any (l : List UInt8) (w : World) (hl : l.length ≤ 3) (r : Int) (hr : numZ l = r) :
    Calls Tryd.prog 107 #[S l] w fun e w' => e = .returned (I r) ∧ w = w' := by
  have hl' : (l.length : Int) ≤ 3 := by omega
  have HR := Lib.hid hr
  clear hr
  go_enter Tryd.func107, Tryd.ntmps107
  go_wp2_with (fail)
  go_loop [3, 4, 7] (fun n _ i => ∃ k : Nat, k ≤ l.length ∧ i = I k ∧ n = I (digsN (l.take k) : Nat) ∧ (l.take k).all digC = true) (fun _ _ i => l.length - (intOf i).toNat)
  case atStart => exact ⟨0, by omega, rfl, rfl, rfl⟩
  case round =>
    obtain ⟨k, hk, rfl, rfl, hall⟩ := hrel
    have hbd := digsN_bd (l.take k) hall
    have hp := pow10_3 (l.take k).length (by simp; omega)
    have HA := Lib.hid hall
    clear hall
    obtain ⟨d, hd⟩ : ∃ d, digsN (l.take k) = d := ⟨_, rfl⟩
    rw [hd] at hbd ⊢
    have hb1 : (d : Int) < 1000 := by omega
    have HD := Lib.hid hd
    clear hd hbd hp
    by_cases hlt : k < l.length
    · have hlt' : (k : Int) < l.length := by omega
      have HT := Lib.hid (allTake digC l k hlt)
      have HH := Lib.hid (all_hit (p := digC) l k hlt)
      have HS := Lib.hid (take_byteAt l k hlt)
      obtain ⟨c, hc⟩ : ∃ c, byteAt l k = c := ⟨_, rfl⟩
      rw [hc] at HT HH HS
      have hcl := byteAt_lt l k
      rw [hc] at hcl
      cases hdc : digC c with
      | true =>
        obtain ⟨h1, h2⟩ := digC_yes hdc
        have h1' : (48 : Int) ≤ c.toNat := by omega
        have h2' : (c.toNat : Int) ≤ 57 := by omega
        have HV := Lib.hid hdc
        clear hdc
        go_wp2_with (fail)
        go_round
        case rel => exact ⟨k + 1, by omega, by go_num, by rw [HS.out, digsN_snoc, HD.out]; go_num, by rw [HT.out, HA.out, HV.out]; rfl⟩
        case measure => simp [intOf]; omega
      | false =>
        have h12 := digC_no hdc
        have HF : Hid (r = -1) := Lib.hid (by rw [← HR.out]; unfold numZ; rw [HH.out hdc]; rfl)
        clear hdc
        go_wp2_with (fail)
        all_goals first
          | (exfalso; omega)
          | (go_ret; exact ⟨ret_I (by rw [HF.out] <;> rfl), rfl⟩)
    · have hlt' : ¬ (k : Int) < l.length := by omega
      have HF : Hid (r = (d : Int)) := Lib.hid (by
        have ha := HA.out
        have hb := HD.out
        rw [List.take_of_length_le (by omega)] at ha hb
        rw [← HR.out, ← hb]; unfold numZ; rw [if_pos ha])
      go_wp2_with (fail)
      go_ret
      exact ⟨ret_I HF.out.symm, rfl⟩
def signsR : List UInt8 := [33, 35, 36, 37, 38, 39, 42, 43, 45, 46, 94, 95, 124, 126, 96]
theorem tok_ref_all : ∀ n, n < 256 → tokC (UInt8.ofNat n) = (digC (UInt8.ofNat n) || letC (UInt8.ofNat n) || signsR.contains (UInt8.ofNat n)) := by decide
theorem tok_ref (c : UInt8) : tokC c = (digC c || letC c || signsR.contains c) := by
  have := tok_ref_all c.toNat c.toNat_lt
  rwa [UInt8.ofNat_toNat] at this
theorem contains_take (l : List UInt8) (c : UInt8) (j : Nat) (h : j < l.length) : (l.take (j + 1)).contains c = ((l.take j).contains c || (c == byteAt l j)) := by
  rw [take_byteAt l j h, Bool.eq_iff_iff]
  simp
theorem letC_cases (c : UInt8) : (letC c = true ∧ (c.toNat : Int) ≥ 97 ∧ (c.toNat : Int) ≤ 122) ∨ (letC c = true ∧ ¬ (c.toNat : Int) ≥ 97 ∧ (c.toNat : Int) ≥ 65 ∧ (c.toNat : Int) ≤ 90) ∨
    (letC c = false ∧ (c.toNat : Int) ≥ 97 ∧ ¬ (c.toNat : Int) ≤ 122 ∧ (c.toNat : Int) ≥ 65 ∧ ¬ (c.toNat : Int) ≤ 90) ∨ (letC c = false ∧ ¬ (c.toNat : Int) ≥ 97 ∧ (c.toNat : Int) ≥ 65 ∧ ¬ (c.toNat : Int) ≤ 90) ∨ (letC c = false ∧ ¬ (c.toNat : Int) ≥ 97 ∧ ¬ (c.toNat : Int) ≥ 65) := by
  unfold letC
  by_cases h1 : 97 ≤ c.toNat
  · by_cases h2 : c.toNat ≤ 122
    · left; refine ⟨by simp; omega, by omega, by omega⟩
    · right; right; left; refine ⟨by simp; omega, by omega, by omega, by omega, by omega⟩
  · by_cases h3 : 65 ≤ c.toNat
    · by_cases h4 : c.toNat ≤ 90
      · right; left; refine ⟨by simp; omega, by omega, by omega, by omega⟩
      · right; right; right; left; refine ⟨by simp; omega, by omega, by omega, by omega⟩
    · right; right; right; right; refine ⟨by simp; omega, by omega, by omega⟩
theorem rtoken_any (s : List UInt8) (w : World) (hs : s.length ≤ 9223372036854775807) :
    Calls Tryd.prog 73 #[S s] w fun e w' => e = .returned (.bool (tokB s)) ∧ Kept [] w w' := by
  have hs' : (s.length : Int) ≤ 9223372036854775807 := by omega
  go_enter Tryd.func73, Tryd.ntmps73
  go_wp2_with (fail)
  go_loopw [4, 5, 6] (fun i _ _ wr => ∃ k : Nat, k ≤ s.length ∧ i = I k ∧ (s.take k).all tokC = true ∧ Kept [] w wr) (fun i _ _ _ => s.length - (intOf i).toNat)
  case atStart => exact ⟨0, by omega, rfl, rfl, Kept.refl _ _⟩
  case round =>
    obtain ⟨k, hk, rfl, hall, hkw⟩ := hrel
    have HA := Lib.hid hall
    have HK := Lib.hid hkw
    clear hall hkw
    by_cases hlt : k < s.length
    · have hlt' : (k : Int) < s.length := by omega
      have HT := Lib.hid (allTake tokC s k hlt)
      have HH := Lib.hid (all_hit (p := tokC) s k hlt)
      obtain ⟨c, hc⟩ : ∃ c, byteAt s k = c := ⟨_, rfl⟩
      rw [hc] at HT HH
      have hcl := byteAt_lt s k
      rw [hc] at hcl
      go_upto_region 5 with (fail)
      go_cut [13, 14, 15, 16, 17, 18, 19, 20, 21, 22, 23, 24, 25, 26, 27, 28, 29, 30, 31, 32, 33, 34, 35, 36, 37, 38, 39, 40, 5] from 13 to 40 (fun _ _ _ _ _ _ _ _ _ _ _ _ _ _ _ _ _ _ _ _ _ _ _ _ _ _ _ _ v wx => v = .bool (digC c || letC c) ∧ wr = wx)
      case first =>
        cases hdc : digC c with
        | true =>
          have HDC := Lib.hid hdc
          clear hdc
          go_wp2_with ((go_at_call 104; (with_reducible refine (digit_at c _ true HDC.out).mono ?_); rintro r w5 ⟨rfl, rfl⟩))
          all_goals (go_meet; exact ⟨by rw [HDC.out]; rfl, rfl⟩)
        | false =>
          have HDC := Lib.hid hdc
          clear hdc
          rcases letC_cases c with ⟨hl, g⟩ | ⟨hl, g⟩ | ⟨hl, g⟩ | ⟨hl, g⟩ | ⟨hl, g⟩
          · obtain ⟨g1, g2⟩ := g
            have HL := Lib.hid hl
            clear hl
            go_wp2_with ((go_at_call 104; (with_reducible refine (digit_at c _ false HDC.out).mono ?_); rintro r w5 ⟨rfl, rfl⟩))
            all_goals (go_meet; exact ⟨by rw [HDC.out, HL.out]; first | rfl | (simp; omega), rfl⟩)
          · obtain ⟨g1, g2, g3⟩ := g
            have HL := Lib.hid hl
            clear hl
            go_wp2_with ((go_at_call 104; (with_reducible refine (digit_at c _ false HDC.out).mono ?_); rintro r w5 ⟨rfl, rfl⟩))
            all_goals (go_meet; exact ⟨by rw [HDC.out, HL.out]; first | rfl | (simp; omega), rfl⟩)
          · obtain ⟨g1, g2, g3, g4⟩ := g
            have HL := Lib.hid hl
            clear hl
            go_wp2_with ((go_at_call 104; (with_reducible refine (digit_at c _ false HDC.out).mono ?_); rintro r w5 ⟨rfl, rfl⟩))
            all_goals (go_meet; exact ⟨by rw [HDC.out, HL.out]; first | rfl | (simp; omega), rfl⟩)
          · obtain ⟨g1, g2, g3⟩ := g
            have HL := Lib.hid hl
            clear hl
            go_wp2_with ((go_at_call 104; (with_reducible refine (digit_at c _ false HDC.out).mono ?_); rintro r w5 ⟨rfl, rfl⟩))
            all_goals (go_meet; exact ⟨by rw [HDC.out, HL.out]; first | rfl | (simp; omega), rfl⟩)
          · obtain ⟨g1, g2⟩ := g
            have HL := Lib.hid hl
            clear hl
            go_wp2_with ((go_at_call 104; (with_reducible refine (digit_at c _ false HDC.out).mono ?_); rintro r w5 ⟨rfl, rfl⟩))
            all_goals (go_meet; exact ⟨by rw [HDC.out, HL.out]; first | rfl | (simp; omega), rfl⟩)
      case rest =>
        obtain ⟨rfl, hwc⟩ := hcut
        replace hwc := hwc.symm
        subst hwc
        go_wp2_with (fail)
        go_loopw [5, 6] (fun v j wq => ∃ m : Nat, m ≤ 15 ∧ j = I m ∧ v = .bool (digC c || letC c || (signsR.take m).contains c) ∧ Kept [] w wq) (fun _ j _ => 15 - (intOf j).toNat)
        case atStart => exact ⟨0, by omega, rfl, by simp, HK.out⟩
        case round =>
          obtain ⟨m, hm, rfl, rfl, hkq⟩ := hrel
          have HQ := Lib.hid hkq
          clear hkq
          by_cases hm15 : m < 15
          · have hm' : (m : Int) < 15 := by omega
            have HC := Lib.hid (contains_take signsR c m hm15)
            obtain ⟨b, hb⟩ : ∃ b, (digC c || letC c || (signsR.take m).contains c) = b := ⟨_, rfl⟩
            rw [hb]
            have HB := Lib.hid hb
            clear hb
            have HE : ∀ x : Bool, (c == byteAt signsR m) = x → (((byteAt s k).toNat : Int) == ((byteAt signsR m).toNat : Int)) = x := by
              intro x hx
              rw [hc, ← hx, Bool.eq_iff_iff]
              simp only [beq_iff_eq]
              constructor
              · intro h; exact UInt8.toNat.inj (by omega)
              · intro h; rw [h]
            cases b with
            | true =>
              go_wp2_with (fail)
              go_quiet (fail)
              go_wp2_with (fail)
              go_roundw
              case rel => exact ⟨m + 1, by omega, by go_num, by rw [HC.out, ← Bool.or_assoc, HB.out]; rfl, HQ.out.drewN _⟩
              case measure => simp [intOf]; omega
            | false =>
              obtain ⟨x, hx⟩ : ∃ x, (c == byteAt signsR m) = x := ⟨_, rfl⟩
              have hx2 := HE x hx
              have HX := Lib.hid hx
              clear hx HE
              go_wp2_with (fail)
              go_quiet (fail)
              go_wp2_with (fail)
              go_roundw
              case rel => exact ⟨m + 1, by omega, by go_num, by rw [HC.out, ← Bool.or_assoc, HB.out, HX.out]; simp; rw [← hc]; exact hx2, HQ.out.drewN _⟩
              case measure => simp [intOf]; omega
          · have hm' : ¬ (m : Int) < 15 := by omega
            have hm2 : m = 15 := by omega
            have hfull : (digC c || letC c || (signsR.take m).contains c) = tokC c := by rw [tok_ref, hm2]; rfl
            rw [hfull]
            cases htk : tokC c with
            | true =>
              have HV := Lib.hid htk
              clear htk hfull
              go_wp2_with (fail)
              go_roundw
              case rel => exact ⟨k + 1, by omega, by go_num, by rw [HT.out, HA.out, HV.out]; rfl, HQ.out⟩
              case measure => simp [intOf]; omega
            | false =>
              have HF : Hid (tokB s = false) := Lib.hid (by unfold tokB; rw [HH.out htk]; rfl)
              clear htk hfull
              go_wp2_with (fail)
              go_ret
              exact ⟨ret_B HF.out.symm, HQ.out⟩
    · have hlt' : ¬ (k : Int) < s.length := by omega
      have HF : Hid (tokB s = decide (0 < s.length)) := Lib.hid (by
        have ha := HA.out
        rw [List.take_of_length_le (by omega)] at ha
        unfold tokB; rw [ha]
        cases s <;> simp)
      go_wp2_with (fail)
      go_ret
      exact ⟨ret_B (by rw [HF.out]), HK.out⟩
end Go.Proofs.YtgdioalhlmnhhaaDoor
