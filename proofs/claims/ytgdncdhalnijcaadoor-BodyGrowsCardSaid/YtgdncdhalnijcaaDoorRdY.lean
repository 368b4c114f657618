/- Walks and lemmas on the program of this seat, used by its statements; each theorem bears its own conditions. -/
import Derived.Test.YtgdncdhalnijcaaDoorRdX
import Derived.StillTailTactics
namespace Go.Proofs.YtgdncdhalnijcaaDoor
open Go.RowKit
set_option linter.unusedVariables false
set_option linter.unusedSimpArgs false
namespace BD
def BehPost (b : Nat) (x : Xr) (out : List UInt8) (w : World) (e : Ending) (w' : World) : Prop :=
  e = .returned (.tuple #[]) ∧ Kept [b] w w' ∧ ∃ x', XAt w' b x' ∧ x'.s = x.s ∧ x'.sv = x.sv ∧ (Ended x' out ∨ (x'.e = 0 ∧ x'.short = false ∧ ∃ r', Seen x' out r' ∧ r'.state = 11 ∧ r'.rest = []))
/-- Between two lines: n of them were read. -/
def AtLine (x : Xr) (out : List UInt8) (n : Nat) : Prop := x.e = 0 ∧ x.short = false ∧ n ≤ 32 ∧ ∃ (r : Rd) (m : Int), r.lines = n ∧ Seen x out { r with state := 7, many := m }
set_option maxRecDepth 100000 in
set_option maxHeartbeats 4000000 in
theorem xline_off (b : Nat) (x : Xr) (w : World) (h : XAt w b x) (ho : okX x = false) :
    Calls Tryd.prog 33 #[Ptr b] w fun e w' => e = .returned (.tuple #[]) ∧ w = w' := by
  have H := Lib.hid h
  clear h
  go_enter Tryd.func33, Tryd.ntmps33
  go_wp2_with (fail)
  go_loopw [2] (fun v wr => wr = w) (fun v _ => 0)
  case atStart => rfl
  case round =>
    obtain rfl := hrel
    go_wp2_with (fail)
    refine (okX_any b x _ H.out).mono ?_
    rintro e w' ⟨rfl, rfl⟩
    rw [ho]
    go_wp2_with (fail)
    exact bodyPost_end (v := .tuple #[]) (by simp [results, Tryd.results33, go_sem]) rfl ⟨rfl, rfl⟩
set_option maxRecDepth 100000 in
set_option maxHeartbeats 4000000 in
theorem xbehind_any (b : Nat) (x : Xr) (out : List UInt8) (w : World) (h : XAt w b x) (hp : x.pos ≤ x.s.length) (hl : x.s.length ≤ 1000000) (hi : Ended x out ∨ AtLine x out 0) :
    Calls Tryd.prog 25 #[Ptr b] w (BehPost b x out w) := by
  go_enter Tryd.func25, Tryd.ntmps25
  have HI := Lib.hid (And.intro h hi)
  clear h hi
  go_wp2_with (fail)
  go_loopw [2, 3] (fun v _ wr => ∃ (x' : Xr) (n : Nat), v = I n ∧ n ≤ 33 ∧ XAt wr b x' ∧ x'.s = x.s ∧ x'.sv = x.sv ∧ Kept [b] w wr ∧ (Ended x' out ∨ AtLine x' out n)) (fun v _ _ => 40 - (intOf v).toNat)
  case atStart => exact ⟨x, 0, rfl, by omega, HI.out.1, rfl, rfl, Kept.refl _ _, HI.out.2⟩
  case round =>
    obtain ⟨x', n, rfl, hn, hx, hs, hv, hk, hc⟩ := hrel
    have HR := Lib.hid (And.intro hx (And.intro hs (And.intro hv hk)))
    have hl' : x'.s.length ≤ 1000000 := by rw [hs]; exact hl
    rcases hc with hE | hA
    · have ho := hE.not_ok
      have HE := Lib.hid hE
      clear hx hs hv hk hE
      go_wp2_with (fail)
      refine (okX_any b x' wr HR.out.1).mono ?_
      rintro e w' ⟨rfl, rfl⟩
      rw [ho]
      go_wp2_with (fail)
      exact bodyPost_end (v := .tuple #[]) (by simp [results, Tryd.results25, go_sem]) rfl ⟨rfl, HR.out.2.2.2, x', HR.out.1, HR.out.2.1, HR.out.2.2.1, .inl HE.out⟩
    · have ho : okX x' = true := by simp [okX, hA.1, hA.2.1]
      have hp' : x'.pos ≤ x'.s.length := by obtain ⟨_, _, _, _, _, _, h⟩ := hA; exact h.1
      have HN := Lib.hid hA
      clear hx hs hv hk hA
      go_wp2_with (fail)
      refine (okX_any b x' wr HR.out.1).mono ?_
      rintro e w' ⟨rfl, rfl⟩
      rw [ho]
      go_wp2_with (fail)
      refine (next_any b x' wr HR.out.1 hp' hl').mono ?_
      rintro e w2 ⟨rfl, h2, k2⟩
      have H2 := Lib.hid (And.intro h2 (HR.out.2.2.2.trans' k2))
      clear h2 k2
      go_wp2_with (fail)
      refine (okX_any b (nextF x') w2 H2.out.1).mono ?_
      rintro e w' ⟨rfl, rfl⟩
      obtain ⟨he0, hs0, hn32, r, mm, hrl, hseen⟩ := HN.out
      have HS := Lib.hid hseen
      have HRL := Lib.hid (And.intro hrl (And.intro hn32 (And.intro he0 hs0)))
      clear hseen hrl he0 hs0
      by_cases hlt : x'.pos < x'.s.length
      · obtain ⟨c, hc⟩ : ∃ c, x'.s.getD x'.pos 0 = c := ⟨_, rfl⟩
        have hnx : nextF x' = { x' with pos := x'.pos + 1 } := by unfold nextF; rw [if_pos (by omega), if_pos ho]
        have hnb : nextB x' = c := by unfold nextB; rw [if_pos ho, hc]
        have hoX : okX { x' with pos := x'.pos + 1 } = true := ho
        have HC := Lib.hid hc
        clear hc
        rw [hnx] at H2 ⊢
        rw [hnb, hoX]
        have HX := Lib.hid hnx
        clear hnx hnb
        by_cases hc13 : (c.toNat : Int) = 13
        · have hcb : ((c.toNat : Int) == 13) = true := by simpa using hc13
          go_wp2_with (fail)
          have HT : Hid (Seen { x' with pos := x'.pos + 1 } out { r with state := 10, many := mm }) := Lib.hid (by
            have h1 := HS.out.step hlt (by rw [HC.out]; exact in7_13 r mm c (by omega))
            simpa using h1)
          by_cases hl2 : x'.pos + 1 < x'.s.length
          · obtain ⟨d, hd⟩ : ∃ d, x'.s.getD (x'.pos + 1) 0 = d := ⟨_, rfl⟩
            refine (next_any b { x' with pos := x'.pos + 1 } w2 H2.out.1 (by show x'.pos + 1 ≤ x'.s.length; omega) hl').mono ?_
            rintro e w3 ⟨rfl, h3, k3⟩
            have hnx2 : nextF { x' with pos := x'.pos + 1 } = { x' with pos := x'.pos + 2 } := by unfold nextF; rw [if_pos (by show ((x'.pos + 1 : Nat) : Int) < x'.s.length; omega), if_pos hoX]
            have hnb2 : nextB { x' with pos := x'.pos + 1 } = d := by unfold nextB; rw [if_pos hoX]; exact hd
            have ho2 : okX { x' with pos := x'.pos + 2 } = true := ho
            rw [hnx2] at h3
            rw [hnb2]
            have H3 := Lib.hid (And.intro h3 (H2.out.2.trans' k3))
            have HD := Lib.hid hd
            clear h3 k3 hnx2 hnb2 hd
            by_cases hd10 : (d.toNat : Int) = 10
            · have hdb : ((d.toNat : Int) == 10) = true := by simpa using hd10
              have HF : Hid (Seen { x' with pos := x'.pos + 2 } out { r with state := 11, many := mm }) := Lib.hid (by
                have h1 := HT.out.step (x := { x' with pos := x'.pos + 1 }) hl2 (by show feed _ (x'.s.getD (x'.pos + 1) 0) = _; rw [HD.out]; exact in10_10 r mm d (by omega))
                simpa using h1)
              go_wp2_with (fail)
              refine (must_any b { x' with pos := x'.pos + 2 } true 180 w3 H3.out.1).mono ?_
              rintro e w4 ⟨rfl, h4, k4⟩
              have hmu : mustF { x' with pos := x'.pos + 2 } true 180 = { x' with pos := x'.pos + 2 } := by simp [mustF]
              rw [hmu] at h4
              have H4 := Lib.hid (And.intro h4 (H3.out.2.trans' k4))
              clear hmu h4 k4
              go_wp2_with (fail)
              exact bodyPost_ret (v := .tuple #[]) (by simp [results, Tryd.results25, go_sem]) rfl ⟨rfl, H4.out.2, { x' with pos := x'.pos + 2 }, H4.out.1, HR.out.2.1, HR.out.2.2.1, .inr ⟨HRL.out.2.2.1, HRL.out.2.2.2, _, HF.out, rfl, HS.out.rest (by show (7 : Int) ≠ 11; decide)⟩⟩
            · have hdb : ((d.toNat : Int) == 10) = false := by simpa using hd10
              have HF : Hid (Wrong x'.s 180) := Lib.hid (by
                obtain ⟨r', hr'⟩ := in10_else r mm d (by omega)
                exact HT.out.wrong (x := { x' with pos := x'.pos + 1 }) hl2 (by show feed _ (x'.s.getD (x'.pos + 1) 0) = _; rw [HD.out]; exact hr') (by decide))
              go_wp2_with (fail)
              refine (must_any b { x' with pos := x'.pos + 2 } false 180 w3 H3.out.1).mono ?_
              rintro e w4 ⟨rfl, h4, k4⟩
              have hmu : mustF { x' with pos := x'.pos + 2 } false 180 = { x' with pos := x'.pos + 2, e := 180 } := by simp [mustF, ho2]
              rw [hmu] at h4
              have H4 := Lib.hid (And.intro h4 (H3.out.2.trans' k4))
              clear hmu h4 k4
              go_wp2_with (fail)
              exact bodyPost_ret (v := .tuple #[]) (by simp [results, Tryd.results25, go_sem]) rfl ⟨rfl, H4.out.2, { x' with pos := x'.pos + 2, e := 180 }, H4.out.1, HR.out.2.1, HR.out.2.2.1, .inl (.inr ⟨by show (180 : Int) ≠ 0; decide, HF.out⟩)⟩
          · refine (next_any b { x' with pos := x'.pos + 1 } w2 H2.out.1 (by show x'.pos + 1 ≤ x'.s.length; omega) hl').mono ?_
            rintro e w3 ⟨rfl, h3, k3⟩
            have hnx2 : nextF { x' with pos := x'.pos + 1 } = { x' with pos := x'.pos + 1, short := true } := by unfold nextF; rw [if_neg (by show ¬ ((x'.pos + 1 : Nat) : Int) < x'.s.length; omega)]
            have hof : okX { x' with pos := x'.pos + 1, short := true } = false := by simp [okX]
            rw [hnx2] at h3
            obtain ⟨d, hd⟩ : ∃ d, nextB { x' with pos := x'.pos + 1 } = d := ⟨_, rfl⟩
            rw [hd]
            have H3 := Lib.hid (And.intro h3 (H2.out.2.trans' k3))
            clear h3 k3 hnx2 hd
            have HF : Hid (Ended { x' with pos := x'.pos + 1, short := true } out) := Lib.hid (.inl ⟨rfl, HRL.out.2.2.1, HT.out.short (x := { x' with pos := x'.pos + 1 }) hl2 (by simp)⟩)
            obtain ⟨q, hq⟩ : ∃ q, ((d.toNat : Int) == 10) = q := ⟨_, rfl⟩
            go_wp2_with (fail)
            refine (must_any b { x' with pos := x'.pos + 1, short := true } q 180 w3 H3.out.1).mono ?_
            rintro e w4 ⟨rfl, h4, k4⟩
            have hmu : mustF { x' with pos := x'.pos + 1, short := true } q 180 = { x' with pos := x'.pos + 1, short := true } := by unfold mustF; rw [if_neg (by simp [hof])]
            rw [hmu] at h4
            have H4 := Lib.hid (And.intro h4 (H3.out.2.trans' k4))
            clear hmu h4 k4
            go_wp2_with (fail)
            exact bodyPost_ret (v := .tuple #[]) (by simp [results, Tryd.results25, go_sem]) rfl ⟨rfl, H4.out.2, { x' with pos := x'.pos + 1, short := true }, H4.out.1, HR.out.2.1, HR.out.2.2.1, .inl HF.out⟩
        · have hcb : ((c.toNat : Int) == 13) = false := by simpa using hc13
          by_cases hn3 : (n : Int) < 32
          · have HT : Hid (Seen { x' with pos := x'.pos + 1 } out { r with state := 8, many := 1, lines := r.lines + 1 }) := Lib.hid (by
              have h1 := HS.out.step hlt (by rw [HC.out]; exact in7_else r mm c (by omega) (by rw [HRL.out.1]; exact hn3))
              simpa using h1)
            go_wp2_with (fail)
            refine (must_any b { x' with pos := x'.pos + 1 } true 180 w2 H2.out.1).mono ?_
            rintro e w3 ⟨rfl, h3, k3⟩
            have hmu : mustF { x' with pos := x'.pos + 1 } true 180 = { x' with pos := x'.pos + 1 } := by simp [mustF]
            rw [hmu] at h3
            have H3 := Lib.hid (And.intro h3 (H2.out.2.trans' k3))
            clear hmu h3 k3
            go_wp2_with (fail)
            refine (xline_any b { x' with pos := x'.pos + 1 } out { r with lines := r.lines + 1 } w3 H3.out.1 (by show x'.pos + 1 ≤ x'.s.length; omega) hl' (.inr ⟨HRL.out.2.2.1, HRL.out.2.2.2, by show x'.pos + 1 ≤ x'.s.length; omega, by omega, .inl ⟨by omega, HT.out⟩⟩)).mono ?_
            rintro e w4 ⟨rfl, k4, x2, hx2, hs2, hv2, hc2⟩
            have H4 := Lib.hid (And.intro hx2 (And.intro (hs2.trans HR.out.2.1) (And.intro (hv2.trans HR.out.2.2.1) (H3.out.2.trans' k4))))
            have HC2 := Lib.hid hc2
            clear k4 hx2 hs2 hv2 hc2
            go_wp2_with (fail)
            go_roundw
            case rel =>
              refine ⟨x2, n + 1, by go_num, by omega, H4.out.1, H4.out.2.1, H4.out.2.2.1, H4.out.2.2.2, ?_⟩
              rcases HC2.out with h | ⟨h1, h2, m2, h3⟩
              · exact .inl h
              · exact .inr ⟨h1, h2, by omega, { r with lines := r.lines + 1 }, m2, by show r.lines + 1 = _; rw [HRL.out.1]; omega, h3⟩
            case measure => simp [intOf]; omega
          · have hnf : decide ((n : Int) < 32) = false := decide_eq_false hn3
            have HF : Hid (Wrong x'.s 180) := Lib.hid (by
              obtain ⟨r', hr'⟩ := in7_many r mm c (by omega) (by rw [HRL.out.1]; exact hn3)
              exact HS.out.wrong hlt (by rw [HC.out]; exact hr') (by decide))
            have hoe : okX { x' with pos := x'.pos + 1, e := 180 } = false := by simp [okX]
            go_wp2_with (fail)
            refine (must_any b { x' with pos := x'.pos + 1 } false 180 w2 H2.out.1).mono ?_
            rintro e w3 ⟨rfl, h3, k3⟩
            have hmu : mustF { x' with pos := x'.pos + 1 } false 180 = { x' with pos := x'.pos + 1, e := 180 } := by simp [mustF, hoX]
            rw [hmu] at h3
            have H3 := Lib.hid (And.intro h3 (H2.out.2.trans' k3))
            clear hmu h3 k3
            go_wp2_with (fail)
            refine (xline_off b { x' with pos := x'.pos + 1, e := 180 } w3 H3.out.1 hoe).mono ?_
            rintro e w4 ⟨rfl, rfl⟩
            go_wp2_with (fail)
            go_roundw
            case rel => exact ⟨{ x' with pos := x'.pos + 1, e := 180 }, n + 1, by go_num, by omega, H3.out.1, HR.out.2.1, HR.out.2.2.1, H3.out.2, .inl (.inr ⟨by show (180 : Int) ≠ 0; decide, HF.out⟩)⟩
            case measure => simp [intOf]; omega
      · have hnx : nextF x' = { x' with short := true } := by unfold nextF; rw [if_neg (by omega)]
        have hok : okX { x' with short := true } = false := by simp [okX]
        rw [hnx] at H2 ⊢
        rw [hok]
        clear hnx
        have HE : Hid (Ended { x' with short := true } out) := Lib.hid (.inl ⟨rfl, HRL.out.2.2.1, HS.out.short hlt (by simp)⟩)
        go_wp2_with (fail)
        refine (must_any b { x' with short := true } (decide ((n : Int) < 32)) 180 w2 H2.out.1).mono ?_
        rintro e w3 ⟨rfl, h3, k3⟩
        have hmu : mustF { x' with short := true } (decide ((n : Int) < 32)) 180 = { x' with short := true } := by unfold mustF; rw [if_neg (by simp [hok])]
        rw [hmu] at h3
        have H3 := Lib.hid (And.intro h3 (H2.out.2.trans' k3))
        clear hmu h3 k3
        go_wp2_with (fail)
        refine (xline_off b { x' with short := true } w3 H3.out.1 hok).mono ?_
        rintro e w4 ⟨rfl, rfl⟩
        go_wp2_with (fail)
        go_roundw
        case rel => exact ⟨{ x' with short := true }, n + 1, by go_num, by omega, H3.out.1, HR.out.2.1, HR.out.2.2.1, H3.out.2, .inl HE.out⟩
        case measure => simp [intOf]; omega
end BD
end Go.Proofs.YtgdncdhalnijcaaDoor
