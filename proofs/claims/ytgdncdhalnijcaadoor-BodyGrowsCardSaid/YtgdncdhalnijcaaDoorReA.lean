/- Walks and lemmas on the program of this seat, used by its statements; each theorem bears its own conditions. -/
import Derived.Test.YtgdncdhalnijcaaDoorRdZ
import Derived.StillTailTactics
namespace Go.Proofs.YtgdncdhalnijcaaDoor
open Go.RowKit
set_option linter.unusedVariables false
set_option linter.unusedSimpArgs false
namespace BD
set_option maxRecDepth 100000 in
set_option maxHeartbeats 4000000 in
theorem xnumber_any (b : Nat) (x : Xr) (out : List UInt8) (r : Rd) (w : World) (h : XAt w b x) (hp : x.pos ≤ x.s.length) (hl : x.s.length ≤ 1000000) (hi : Ended x out ∨ InNum x out r 0 0) :
    Calls Tryd.prog 23 #[Ptr b] w (NumPost b x out r w) := by
  go_enter Tryd.func23, Tryd.ntmps23
  have HI := Lib.hid (And.intro h hi)
  clear h hi
  go_wp2_with (fail)
  go_loopw [2, 3, 4, 5, 6] (fun _ nv kv _ _ wr => ∃ (x' : Xr) (k : Nat) (n : Int), nv = I n ∧ kv = I k ∧ k ≤ 7 ∧ -1000000000 ≤ n ∧ n ≤ 1000000000 ∧ XAt wr b x' ∧ x'.s = x.s ∧ x'.sv = x.sv ∧ Kept [b] w wr ∧ (Ended x' out ∨ InNum x' out r k n)) (fun _ _ kv _ _ _ => 40 - (intOf kv).toNat)
  case atStart => exact ⟨x, 0, 0, rfl, rfl, by omega, by omega, by omega, HI.out.1, rfl, rfl, Kept.refl _ _, HI.out.2⟩
  case round =>
    obtain ⟨x', k, n, rfl, rfl, hk7, hb1, hb2, hx, hs, hv, hk, hc⟩ := hrel
    have HR := Lib.hid (And.intro hx (And.intro hs (And.intro hv hk)))
    have hl' : x'.s.length ≤ 1000000 := by rw [hs]; exact hl
    rcases hc with hE | hA
    · have ho := hE.not_ok
      have HE := Lib.hid hE
      clear hx hs hv hk hE
      go_wp2_with (fail)
      refine (okX_any b x' wr HR.out.1).mono ?_
      rintro e w' ⟨rfl, rfl⟩
      rw [ho]
      go_wp2_with (fail)
      go_ret
      exact ⟨0, rfl, HR.out.2.2.2, x', HR.out.1, HR.out.2.1, HR.out.2.2.1, by omega, by omega, .inl HE.out⟩
    · have ho : okX x' = true := by simp [okX, hA.1, hA.2.1]
      have hp' : x'.pos ≤ x'.s.length := hA.2.2.2.2.2.1
      have hn0 : 0 ≤ n := hA.2.2.2.1
      have hn1 : n ≤ 16777216 := hA.le
      have hk6 : k ≤ 6 := hA.2.2.1
      have HN := Lib.hid hA
      clear hx hs hv hk hA
      go_wp2_with (fail)
      refine (okX_any b x' wr HR.out.1).mono ?_
      rintro e w' ⟨rfl, rfl⟩
      rw [ho]
      go_wp2_with (fail)
      refine (next_any b x' wr HR.out.1 hp' hl').mono ?_
      rintro e w2 ⟨rfl, h2, k2⟩
      have H2 := Lib.hid (And.intro h2 (HR.out.2.2.2.trans' k2))
      clear h2 k2
      go_wp2_with (fail)
      refine (okX_any b (nextF x') w2 H2.out.1).mono ?_
      rintro e w' ⟨rfl, rfl⟩
      by_cases hlt : x'.pos < x'.s.length
      · obtain ⟨c, hc⟩ : ∃ c, x'.s.getD x'.pos 0 = c := ⟨_, rfl⟩
        have hnx : nextF x' = { x' with pos := x'.pos + 1 } := by unfold nextF; rw [if_pos (by omega), if_pos ho]
        have hnb : nextB x' = c := by unfold nextB; rw [if_pos ho, hc]
        have hoX : okX { x' with pos := x'.pos + 1 } = true := ho
        have HC := Lib.hid hc
        clear hc
        rw [hnx] at H2 ⊢
        rw [hnb, hoX]
        clear hnx hnb
        have hc255 : (c.toNat : Int) ≤ 255 := by have := c.toNat_lt; omega
        by_cases hD : (48 : Int) ≤ c.toNat ∧ (c.toNat : Int) ≤ 57
        · obtain ⟨hd1, hd2⟩ := hD
          have hc13 : ¬ (c.toNat : Int) = 13 := by omega
          have hl1 : ¬ (97 : Int) ≤ c.toNat := by omega
          have hu1 : ¬ (65 : Int) ≤ c.toNat := by omega
          have hdg : digitF c = (c.toNat : Int) - 48 := by unfold digitF; (repeat' split) <;> omega
          by_cases hk : (k : Int) < 6
          · go_wp2_with (fail)
            refine (must_any b { x' with pos := x'.pos + 1 } true 180 w2 H2.out.1).mono ?_
            rintro e w3 ⟨rfl, h3, k3⟩
            have hmu : mustF { x' with pos := x'.pos + 1 } true 180 = { x' with pos := x'.pos + 1 } := by simp [mustF]
            rw [hmu] at h3
            have H3 := Lib.hid (And.intro h3 (H2.out.2.trans' k3))
            have HDG := Lib.hid hdg
            clear hmu h3 k3 hdg
            go_wp2_with (fail)
            go_roundw
            case rel => exact ⟨{ x' with pos := x'.pos + 1 }, k + 1, 16 * n + ((c.toNat : Int) - 48), by go_num, by go_num, by omega, by omega, by omega, H3.out.1, HR.out.2.1, HR.out.2.2.1, H3.out.2, .inr (by have := HN.out.digit hlt (by omega) (by rw [HC.out]; omega) (by rw [HC.out, HDG.out]; omega); rwa [HC.out, HDG.out] at this)⟩
            case measure => simp [intOf]; omega
          · have hkf : decide ((k : Int) < 6) = false := decide_eq_false hk
            have HW : Hid (Wrong x'.s 180) := Lib.hid (HN.out.bad hlt (by rw [HC.out]; omega) (by rw [HC.out]; exact .inr (by omega)))
            clear hdg
            go_wp2_with (fail)
            refine (must_any b { x' with pos := x'.pos + 1 } false 180 w2 H2.out.1).mono ?_
            rintro e w3 ⟨rfl, h3, k3⟩
            have hmu : mustF { x' with pos := x'.pos + 1 } false 180 = { x' with pos := x'.pos + 1, e := 180 } := by simp [mustF, hoX]
            rw [hmu] at h3
            have H3 := Lib.hid (And.intro h3 (H2.out.2.trans' k3))
            clear hmu h3 k3
            go_wp2_with (fail)
            go_roundw
            case rel => exact ⟨{ x' with pos := x'.pos + 1, e := 180 }, k + 1, 16 * n + ((c.toNat : Int) - 48), by go_num, by go_num, by omega, by omega, by omega, H3.out.1, HR.out.2.1, HR.out.2.2.1, H3.out.2, .inl (.inr ⟨by show (180 : Int) ≠ 0; decide, HW.out⟩)⟩
            case measure => simp [intOf]; omega
        by_cases hL : (97 : Int) ≤ c.toNat ∧ (c.toNat : Int) ≤ 102
        · obtain ⟨hd1, hd2⟩ := hL
          clear hD
          have hc13 : ¬ (c.toNat : Int) = 13 := by omega
          have ha1 : (48 : Int) ≤ c.toNat := by omega
          have ha2 : ¬ (c.toNat : Int) ≤ 57 := by omega
          have hu1 : (65 : Int) ≤ c.toNat := by omega
          have hu2 : ¬ (c.toNat : Int) ≤ 70 := by omega
          have hdg : digitF c = (c.toNat : Int) - 97 + 10 := by unfold digitF; (repeat' split) <;> omega
          by_cases hk : (k : Int) < 6
          · go_wp2_with (fail)
            refine (must_any b { x' with pos := x'.pos + 1 } true 180 w2 H2.out.1).mono ?_
            rintro e w3 ⟨rfl, h3, k3⟩
            have hmu : mustF { x' with pos := x'.pos + 1 } true 180 = { x' with pos := x'.pos + 1 } := by simp [mustF]
            rw [hmu] at h3
            have H3 := Lib.hid (And.intro h3 (H2.out.2.trans' k3))
            have HDG := Lib.hid hdg
            clear hmu h3 k3 hdg
            go_wp2_with (fail)
            go_roundw
            case rel => exact ⟨{ x' with pos := x'.pos + 1 }, k + 1, 16 * n + ((c.toNat : Int) - 97 + 10), by go_num, by go_num, by omega, by omega, by omega, H3.out.1, HR.out.2.1, HR.out.2.2.1, H3.out.2, .inr (by have := HN.out.digit hlt (by omega) (by rw [HC.out]; omega) (by rw [HC.out, HDG.out]; omega); rwa [HC.out, HDG.out] at this)⟩
            case measure => simp [intOf]; omega
          · have hkf : decide ((k : Int) < 6) = false := decide_eq_false hk
            have HW : Hid (Wrong x'.s 180) := Lib.hid (HN.out.bad hlt (by rw [HC.out]; omega) (by rw [HC.out]; exact .inr (by omega)))
            clear hdg
            go_wp2_with (fail)
            refine (must_any b { x' with pos := x'.pos + 1 } false 180 w2 H2.out.1).mono ?_
            rintro e w3 ⟨rfl, h3, k3⟩
            have hmu : mustF { x' with pos := x'.pos + 1 } false 180 = { x' with pos := x'.pos + 1, e := 180 } := by simp [mustF, hoX]
            rw [hmu] at h3
            have H3 := Lib.hid (And.intro h3 (H2.out.2.trans' k3))
            clear hmu h3 k3
            go_wp2_with (fail)
            go_roundw
            case rel => exact ⟨{ x' with pos := x'.pos + 1, e := 180 }, k + 1, 16 * n + ((c.toNat : Int) - 97 + 10), by go_num, by go_num, by omega, by omega, by omega, H3.out.1, HR.out.2.1, HR.out.2.2.1, H3.out.2, .inl (.inr ⟨by show (180 : Int) ≠ 0; decide, HW.out⟩)⟩
            case measure => simp [intOf]; omega
        by_cases hU : (65 : Int) ≤ c.toNat ∧ (c.toNat : Int) ≤ 70
        · obtain ⟨hd1, hd2⟩ := hU
          clear hD hL
          have hc13 : ¬ (c.toNat : Int) = 13 := by omega
          have ha1 : (48 : Int) ≤ c.toNat := by omega
          have ha2 : ¬ (c.toNat : Int) ≤ 57 := by omega
          have hu1 : ¬ (97 : Int) ≤ c.toNat := by omega
          have hdg : digitF c = (c.toNat : Int) - 65 + 10 := by unfold digitF; (repeat' split) <;> omega
          by_cases hk : (k : Int) < 6
          · go_wp2_with (fail)
            refine (must_any b { x' with pos := x'.pos + 1 } true 180 w2 H2.out.1).mono ?_
            rintro e w3 ⟨rfl, h3, k3⟩
            have hmu : mustF { x' with pos := x'.pos + 1 } true 180 = { x' with pos := x'.pos + 1 } := by simp [mustF]
            rw [hmu] at h3
            have H3 := Lib.hid (And.intro h3 (H2.out.2.trans' k3))
            have HDG := Lib.hid hdg
            clear hmu h3 k3 hdg
            go_wp2_with (fail)
            go_roundw
            case rel => exact ⟨{ x' with pos := x'.pos + 1 }, k + 1, 16 * n + ((c.toNat : Int) - 65 + 10), by go_num, by go_num, by omega, by omega, by omega, H3.out.1, HR.out.2.1, HR.out.2.2.1, H3.out.2, .inr (by have := HN.out.digit hlt (by omega) (by rw [HC.out]; omega) (by rw [HC.out, HDG.out]; omega); rwa [HC.out, HDG.out] at this)⟩
            case measure => simp [intOf]; omega
          · have hkf : decide ((k : Int) < 6) = false := decide_eq_false hk
            have HW : Hid (Wrong x'.s 180) := Lib.hid (HN.out.bad hlt (by rw [HC.out]; omega) (by rw [HC.out]; exact .inr (by omega)))
            clear hdg
            go_wp2_with (fail)
            refine (must_any b { x' with pos := x'.pos + 1 } false 180 w2 H2.out.1).mono ?_
            rintro e w3 ⟨rfl, h3, k3⟩
            have hmu : mustF { x' with pos := x'.pos + 1 } false 180 = { x' with pos := x'.pos + 1, e := 180 } := by simp [mustF, hoX]
            rw [hmu] at h3
            have H3 := Lib.hid (And.intro h3 (H2.out.2.trans' k3))
            clear hmu h3 k3
            go_wp2_with (fail)
            go_roundw
            case rel => exact ⟨{ x' with pos := x'.pos + 1, e := 180 }, k + 1, 16 * n + ((c.toNat : Int) - 65 + 10), by go_num, by go_num, by omega, by omega, by omega, H3.out.1, HR.out.2.1, HR.out.2.2.1, H3.out.2, .inl (.inr ⟨by show (180 : Int) ≠ 0; decide, HW.out⟩)⟩
            case measure => simp [intOf]; omega
        by_cases hc13 : (c.toNat : Int) = 13
        · by_cases hk0 : (k : Int) > 0
          · skip
            have hcb : ((c.toNat : Int) == 13) = true := by simpa using hc13
            have HT := Lib.hid (HN.out.cr hlt (by rw [HC.out]; omega) (by omega))
            go_wp2_with (fail)
            by_cases hl2 : x'.pos + 1 < x'.s.length
            · obtain ⟨d, hd⟩ : ∃ d, x'.s.getD (x'.pos + 1) 0 = d := ⟨_, rfl⟩
              refine (next_any b { x' with pos := x'.pos + 1 } w2 H2.out.1 (by show x'.pos + 1 ≤ x'.s.length; omega) hl').mono ?_
              rintro e w3 ⟨rfl, h3, k3⟩
              have hnx2 : nextF { x' with pos := x'.pos + 1 } = { x' with pos := x'.pos + 2 } := by unfold nextF; rw [if_pos (by show ((x'.pos + 1 : Nat) : Int) < x'.s.length; omega), if_pos hoX]
              have hnb2 : nextB { x' with pos := x'.pos + 1 } = d := by unfold nextB; rw [if_pos hoX]; exact hd
              have ho2 : okX { x' with pos := x'.pos + 2 } = true := ho
              rw [hnx2] at h3
              rw [hnb2]
              have H3 := Lib.hid (And.intro h3 (H2.out.2.trans' k3))
              have HD := Lib.hid hd
              clear h3 k3 hnx2 hnb2 hd
              by_cases hd10 : (d.toNat : Int) = 10
              · have hdb : ((d.toNat : Int) == 10) = true := by simpa using hd10
                have HF : Hid (NumDone { x' with pos := x'.pos + 2 } out r n) := Lib.hid ⟨HN.out.1, HN.out.2.1, hn0, hn1, x'.pos + 1, k, rfl, hl2, by show (x'.s.getD (x'.pos + 1) 0).toNat = 10; rw [HD.out]; omega, HT.out⟩
                go_wp2_with (fail)
                refine (must_any b { x' with pos := x'.pos + 2 } true 180 w3 H3.out.1).mono ?_
                rintro e w4 ⟨rfl, h4, k4⟩
                have hmu : mustF { x' with pos := x'.pos + 2 } true 180 = { x' with pos := x'.pos + 2 } := by simp [mustF]
                rw [hmu] at h4
                have H4 := Lib.hid (And.intro h4 (H3.out.2.trans' k4))
                clear hmu h4 k4
                go_wp2_with (fail)
                go_ret
                exact ⟨n, rfl, H4.out.2, { x' with pos := x'.pos + 2 }, H4.out.1, HR.out.2.1, HR.out.2.2.1, by omega, by omega, .inr HF.out⟩
              · have hdb : ((d.toNat : Int) == 10) = false := by simpa using hd10
                have HF : Hid (Wrong x'.s 180) := Lib.hid (HT.out.wrong (x := { x' with pos := x'.pos + 1 }) hl2 (by show feed _ (x'.s.getD (x'.pos + 1) 0) = _; rw [HD.out]; exact in3_else _ d rfl (by omega)) (by decide))
                go_wp2_with (fail)
                refine (must_any b { x' with pos := x'.pos + 2 } false 180 w3 H3.out.1).mono ?_
                rintro e w4 ⟨rfl, h4, k4⟩
                have hmu : mustF { x' with pos := x'.pos + 2 } false 180 = { x' with pos := x'.pos + 2, e := 180 } := by simp [mustF, ho2]
                rw [hmu] at h4
                have H4 := Lib.hid (And.intro h4 (H3.out.2.trans' k4))
                clear hmu h4 k4
                go_wp2_with (fail)
                go_ret
                exact ⟨n, rfl, H4.out.2, { x' with pos := x'.pos + 2, e := 180 }, H4.out.1, HR.out.2.1, HR.out.2.2.1, by omega, by omega, .inl (.inr ⟨by show (180 : Int) ≠ 0; decide, HF.out⟩)⟩
            · refine (next_any b { x' with pos := x'.pos + 1 } w2 H2.out.1 (by show x'.pos + 1 ≤ x'.s.length; omega) hl').mono ?_
              rintro e w3 ⟨rfl, h3, k3⟩
              have hnx2 : nextF { x' with pos := x'.pos + 1 } = { x' with pos := x'.pos + 1, short := true } := by unfold nextF; rw [if_neg (by show ¬ ((x'.pos + 1 : Nat) : Int) < x'.s.length; omega)]
              have hof : okX { x' with pos := x'.pos + 1, short := true } = false := by simp [okX]
              rw [hnx2] at h3
              obtain ⟨d, hd⟩ : ∃ d, nextB { x' with pos := x'.pos + 1 } = d := ⟨_, rfl⟩
              rw [hd]
              have H3 := Lib.hid (And.intro h3 (H2.out.2.trans' k3))
              clear h3 k3 hnx2 hd
              have HF : Hid (Ended { x' with pos := x'.pos + 1, short := true } out) := Lib.hid (.inl ⟨rfl, HN.out.1, HT.out.short (x := { x' with pos := x'.pos + 1 }) hl2 (by simp)⟩)
              obtain ⟨q, hq⟩ : ∃ q, ((d.toNat : Int) == 10) = q := ⟨_, rfl⟩
              go_wp2_with (fail)
              refine (must_any b { x' with pos := x'.pos + 1, short := true } q 180 w3 H3.out.1).mono ?_
              rintro e w4 ⟨rfl, h4, k4⟩
              have hmu : mustF { x' with pos := x'.pos + 1, short := true } q 180 = { x' with pos := x'.pos + 1, short := true } := by unfold mustF; rw [if_neg (by simp [hof])]
              rw [hmu] at h4
              have H4 := Lib.hid (And.intro h4 (H3.out.2.trans' k4))
              clear hmu h4 k4
              go_wp2_with (fail)
              go_ret
              exact ⟨n, rfl, H4.out.2, { x' with pos := x'.pos + 1, short := true }, H4.out.1, HR.out.2.1, HR.out.2.2.1, by omega, by omega, .inl HF.out⟩
          · skip
            have hk00 : k = 0 := by omega
            have g1 : ¬ (97 : Int) ≤ c.toNat := by omega
            have g3 : ¬ (48 : Int) ≤ c.toNat := by omega
            have g5 : ¬ (65 : Int) ≤ c.toNat := by omega
            have hdg : digitF c = -1 := by unfold digitF; (repeat' split) <;> omega
            have HW : Hid (Wrong x'.s 180) := Lib.hid (HN.out.bad hlt (by rw [HC.out]; omega) (by rw [HC.out]; exact .inl (by omega)))
            have hcb : ((c.toNat : Int) == 13) = true := by simpa using hc13
            clear hdg
            go_wp2_with (fail)
            refine (must_any b { x' with pos := x'.pos + 1 } false 180 w2 H2.out.1).mono ?_
            rintro e w3 ⟨rfl, h3, k3⟩
            have hmu : mustF { x' with pos := x'.pos + 1 } false 180 = { x' with pos := x'.pos + 1, e := 180 } := by simp [mustF, hoX]
            rw [hmu] at h3
            have H3 := Lib.hid (And.intro h3 (H2.out.2.trans' k3))
            clear hmu h3 k3
            go_wp2_with (fail)
            go_roundw
            case rel => exact ⟨{ x' with pos := x'.pos + 1, e := 180 }, k + 1, 16 * n + (-1), by go_num, by go_num, by omega, by omega, by omega, H3.out.1, HR.out.2.1, HR.out.2.2.1, H3.out.2, .inl (.inr ⟨by show (180 : Int) ≠ 0; decide, HW.out⟩)⟩
            case measure => simp [intOf]; omega
        by_cases h102 : (102 : Int) < c.toNat
        · have g1 : (97 : Int) ≤ c.toNat := by omega
          have g2 : ¬ (c.toNat : Int) ≤ 102 := by omega
          have g3 : (48 : Int) ≤ c.toNat := by omega
          have g4 : ¬ (c.toNat : Int) ≤ 57 := by omega
          have g5 : (65 : Int) ≤ c.toNat := by omega
          have g6 : ¬ (c.toNat : Int) ≤ 70 := by omega
          have hdg : digitF c = -1 := by unfold digitF; (repeat' split) <;> omega
          have HW : Hid (Wrong x'.s 180) := Lib.hid (HN.out.bad hlt (by rw [HC.out]; omega) (by rw [HC.out]; exact .inl (by omega)))
          clear hdg
          go_wp2_with (fail)
          refine (must_any b { x' with pos := x'.pos + 1 } false 180 w2 H2.out.1).mono ?_
          rintro e w3 ⟨rfl, h3, k3⟩
          have hmu : mustF { x' with pos := x'.pos + 1 } false 180 = { x' with pos := x'.pos + 1, e := 180 } := by simp [mustF, hoX]
          rw [hmu] at h3
          have H3 := Lib.hid (And.intro h3 (H2.out.2.trans' k3))
          clear hmu h3 k3
          go_wp2_with (fail)
          go_roundw
          case rel => exact ⟨{ x' with pos := x'.pos + 1, e := 180 }, k + 1, 16 * n + (-1), by go_num, by go_num, by omega, by omega, by omega, H3.out.1, HR.out.2.1, HR.out.2.2.1, H3.out.2, .inl (.inr ⟨by show (180 : Int) ≠ 0; decide, HW.out⟩)⟩
          case measure => simp [intOf]; omega
        by_cases h96 : (70 : Int) < c.toNat
        · have g1 : ¬ (97 : Int) ≤ c.toNat := by omega
          have g3 : (48 : Int) ≤ c.toNat := by omega
          have g4 : ¬ (c.toNat : Int) ≤ 57 := by omega
          have g5 : (65 : Int) ≤ c.toNat := by omega
          have g6 : ¬ (c.toNat : Int) ≤ 70 := by omega
          have hdg : digitF c = -1 := by unfold digitF; (repeat' split) <;> omega
          have HW : Hid (Wrong x'.s 180) := Lib.hid (HN.out.bad hlt (by rw [HC.out]; omega) (by rw [HC.out]; exact .inl (by omega)))
          clear hdg
          go_wp2_with (fail)
          refine (must_any b { x' with pos := x'.pos + 1 } false 180 w2 H2.out.1).mono ?_
          rintro e w3 ⟨rfl, h3, k3⟩
          have hmu : mustF { x' with pos := x'.pos + 1 } false 180 = { x' with pos := x'.pos + 1, e := 180 } := by simp [mustF, hoX]
          rw [hmu] at h3
          have H3 := Lib.hid (And.intro h3 (H2.out.2.trans' k3))
          clear hmu h3 k3
          go_wp2_with (fail)
          go_roundw
          case rel => exact ⟨{ x' with pos := x'.pos + 1, e := 180 }, k + 1, 16 * n + (-1), by go_num, by go_num, by omega, by omega, by omega, H3.out.1, HR.out.2.1, HR.out.2.2.1, H3.out.2, .inl (.inr ⟨by show (180 : Int) ≠ 0; decide, HW.out⟩)⟩
          case measure => simp [intOf]; omega
        by_cases h64 : (57 : Int) < c.toNat
        · have g1 : ¬ (97 : Int) ≤ c.toNat := by omega
          have g3 : (48 : Int) ≤ c.toNat := by omega
          have g4 : ¬ (c.toNat : Int) ≤ 57 := by omega
          have g5 : ¬ (65 : Int) ≤ c.toNat := by omega
          have hdg : digitF c = -1 := by unfold digitF; (repeat' split) <;> omega
          have HW : Hid (Wrong x'.s 180) := Lib.hid (HN.out.bad hlt (by rw [HC.out]; omega) (by rw [HC.out]; exact .inl (by omega)))
          clear hdg
          go_wp2_with (fail)
          refine (must_any b { x' with pos := x'.pos + 1 } false 180 w2 H2.out.1).mono ?_
          rintro e w3 ⟨rfl, h3, k3⟩
          have hmu : mustF { x' with pos := x'.pos + 1 } false 180 = { x' with pos := x'.pos + 1, e := 180 } := by simp [mustF, hoX]
          rw [hmu] at h3
          have H3 := Lib.hid (And.intro h3 (H2.out.2.trans' k3))
          clear hmu h3 k3
          go_wp2_with (fail)
          go_roundw
          case rel => exact ⟨{ x' with pos := x'.pos + 1, e := 180 }, k + 1, 16 * n + (-1), by go_num, by go_num, by omega, by omega, by omega, H3.out.1, HR.out.2.1, HR.out.2.2.1, H3.out.2, .inl (.inr ⟨by show (180 : Int) ≠ 0; decide, HW.out⟩)⟩
          case measure => simp [intOf]; omega
        have g1 : ¬ (97 : Int) ≤ c.toNat := by omega
        have g3 : ¬ (48 : Int) ≤ c.toNat := by omega
        have g5 : ¬ (65 : Int) ≤ c.toNat := by omega
        have hdg : digitF c = -1 := by unfold digitF; (repeat' split) <;> omega
        have HW : Hid (Wrong x'.s 180) := Lib.hid (HN.out.bad hlt (by rw [HC.out]; omega) (by rw [HC.out]; exact .inl (by omega)))
        clear hdg
        go_wp2_with (fail)
        refine (must_any b { x' with pos := x'.pos + 1 } false 180 w2 H2.out.1).mono ?_
        rintro e w3 ⟨rfl, h3, k3⟩
        have hmu : mustF { x' with pos := x'.pos + 1 } false 180 = { x' with pos := x'.pos + 1, e := 180 } := by simp [mustF, hoX]
        rw [hmu] at h3
        have H3 := Lib.hid (And.intro h3 (H2.out.2.trans' k3))
        clear hmu h3 k3
        go_wp2_with (fail)
        go_roundw
        case rel => exact ⟨{ x' with pos := x'.pos + 1, e := 180 }, k + 1, 16 * n + (-1), by go_num, by go_num, by omega, by omega, by omega, H3.out.1, HR.out.2.1, HR.out.2.2.1, H3.out.2, .inl (.inr ⟨by show (180 : Int) ≠ 0; decide, HW.out⟩)⟩
        case measure => simp [intOf]; omega
      · have hnx : nextF x' = { x' with short := true } := by unfold nextF; rw [if_neg (by omega)]
        have hok : okX { x' with short := true } = false := by simp [okX]
        rw [hnx] at H2 ⊢
        rw [hok]
        clear hnx
        have HE : Hid (Ended { x' with short := true } out) := Lib.hid (.inl ⟨rfl, HN.out.1, HN.out.2.2.2.2.2.short hlt (by simp)⟩)
        go_wp2_with (fail)
        go_ret
        exact ⟨0, rfl, H2.out.2, { x' with short := true }, H2.out.1, HR.out.2.1, HR.out.2.2.1, by omega, by omega, .inl HE.out⟩
end BD
end Go.Proofs.YtgdncdhalnijcaaDoor
