/- Walks and lemmas on the program of this seat, used by its statements; each theorem bears its own conditions. -/
import Derived.Test.YtgdncdhalnijcaaDoorRdW
import Derived.StillTailTactics
namespace Go.Proofs.YtgdncdhalnijcaaDoor
open Go.RowKit
set_option linter.unusedVariables false
set_option linter.unusedSimpArgs false
namespace BD
def LinePost (b : Nat) (x : Xr) (out : List UInt8) (r : Rd) (w : World) (e : Ending) (w' : World) : Prop :=
  e = .returned (.tuple #[]) ∧ Kept [b] w w' ∧ ∃ x', XAt w' b x' ∧ x'.s = x.s ∧ x'.sv = x.sv ∧ (Ended x' out ∨ (x'.e = 0 ∧ x'.short = false ∧ ∃ m : Int, Seen x' out { r with state := 7, many := m }))
set_option maxRecDepth 100000 in
set_option maxHeartbeats 4000000 in
theorem xline_any (b : Nat) (x : Xr) (out : List UInt8) (r : Rd) (w : World) (h : XAt w b x) (hp : x.pos ≤ x.s.length) (hl : x.s.length ≤ 1000000) (hi : Ended x out ∨ InLine x out r 1) :
    Calls Tryd.prog 33 #[Ptr b] w (LinePost b x out r w) := by
  go_enter Tryd.func33, Tryd.ntmps33
  have HI := Lib.hid (And.intro h hi)
  clear h hi
  go_wp2_with (fail)
  go_loopw [2] (fun v wr => ∃ (x' : Xr) (m : Nat), v = I m ∧ m ≤ 258 ∧ x'.pos ≤ x'.s.length ∧ XAt wr b x' ∧ x'.s = x.s ∧ x'.sv = x.sv ∧ Kept [b] w wr ∧ (Ended x' out ∨ InLine x' out r m)) (fun v _ => 300 - (intOf v).toNat)
  case atStart => exact ⟨x, 1, rfl, by omega, hp, HI.out.1, rfl, rfl, Kept.refl _ _, HI.out.2⟩
  case round =>
    obtain ⟨x', m, rfl, hm, hp', hx, hs, hv, hk, hc⟩ := hrel
    have HR := Lib.hid (And.intro hx (And.intro hs (And.intro hv hk)))
    have hl' : x'.s.length ≤ 1000000 := by rw [hs]; exact hl
    rcases hc with hE | hIn
    · have ho := hE.not_ok
      have HE := Lib.hid hE
      clear hx hs hv hk hE
      go_wp2_with (fail)
      refine (okX_any b x' wr HR.out.1).mono ?_
      rintro e w' ⟨rfl, rfl⟩
      rw [ho]
      go_wp2_with (fail)
      exact bodyPost_end (v := .tuple #[]) (by simp [results, Tryd.results33, go_sem]) rfl ⟨rfl, HR.out.2.2.2, x', HR.out.1, HR.out.2.1, HR.out.2.2.1, .inl HE.out⟩
    · have ho : okX x' = true := by simp [okX, hIn.1, hIn.2.1]
      have HN := Lib.hid hIn
      clear hx hs hv hk hIn
      by_cases hm6 : (m : Int) ≤ 256
      · go_wp2_with (fail)
        refine (okX_any b x' wr HR.out.1).mono ?_
        rintro e w' ⟨rfl, rfl⟩
        rw [ho]
        go_wp2_with (fail)
        refine (must_any b x' true 181 wr HR.out.1).mono ?_
        rintro e w2 ⟨rfl, h2, k2⟩
        have hmu : mustF x' true 181 = x' := by simp [mustF]
        rw [hmu] at h2
        have H2 := Lib.hid (And.intro h2 (HR.out.2.2.2.trans' k2))
        obtain ⟨c0, c1, c2, c3, c4⟩ := h2.cells
        obtain ⟨f0, f1, f2, f3, f4⟩ := h2.free
        clear hmu h2 k2
        by_cases hlt : (x'.pos : Int) + 1 < x'.s.length
        · obtain ⟨c, hc⟩ : ∃ c, x'.s[x'.pos]'(by omega) = c := ⟨_, rfl⟩
          obtain ⟨d, hd⟩ : ∃ c, x'.s[x'.pos + 1]'(by omega) = c := ⟨_, rfl⟩
          have gc : x'.s.getD x'.pos 0 = c := by rw [← hc]; simp [List.getD, show x'.pos < x'.s.length by omega]
          have gd : x'.s.getD (x'.pos + 1) 0 = d := by rw [← hd]; simp [List.getD, show x'.pos + 1 < x'.s.length by omega]
          have HG := Lib.hid (And.intro gc gd)
          clear gc gd
          by_cases hc13 : (c.toNat : Int) = 13
          · by_cases hd10 : (d.toNat : Int) = 10
            · go_wp2_with (fail)
              go_quiet (fail)
              go_wp2_with (fail)
              refine (okX_any b x' (w2.drewN nq) H2.out.1).mono ?_
              rintro e w' ⟨rfl, rfl⟩
              rw [ho]
              go_wp2_with (fail)
              have h3 : XAt ((w2.drewN nq).setCell ⟨b, 1, none⟩ (Value.int .i64 ((x'.pos : Int) + 2))) b { x' with pos := x'.pos + 2 } := XAt.set1 (w := w2.drewN nq) (x := x') H2.out.1 (x'.pos + 2)
              have hN := HN.out
              exact bodyPost_ret (v := .tuple #[]) (by simp [results, Tryd.results33, go_sem]) rfl ⟨rfl, (H2.out.2.drewN nq).setCell (.inl (by simp)) _, _, h3, HR.out.2.1, HR.out.2.2.1,
                .inr ⟨hN.1, hN.2.1, m, hN.ends (by omega) (by omega) (by rw [HG.out.1]; omega) (by rw [HG.out.2]; omega)⟩⟩
            · have hdb : ((d.toNat : Int) == 10) = false := by simpa using hd10
              have hneb : ((x'.pos : Int) + 1 == x'.s.length) = false := by simp; omega
              have hnx : Hid (nextF x' = { x' with pos := x'.pos + 1 }) := Lib.hid (by unfold nextF; rw [if_pos (by omega), if_pos ho])
              go_wp2_with (fail)
              go_quiet (fail)
              go_wp2_with (fail)
              go_quiet (fail)
              go_wp2_with (fail)
              refine (next_any b x' _ (by exact H2.out.1) hp' hl').mono ?_
              rintro e w3 ⟨rfl, h3, k3⟩
              have H3 := Lib.hid (And.intro h3 (Kept.trans' (S := [b]) (a := w) (by first | exact H2.out.2 | exact H2.out.2.drewN _ | exact (H2.out.2.drewN _).drewN _ | exact (H2.out.2.setCell (.inl (by simp)) _) | exact (H2.out.2.drewN _).setCell (.inl (by simp)) _ | exact ((H2.out.2.drewN _).drewN _).setCell (.inl (by simp)) _ | exact ((H2.out.2.setCell (.inl (by simp)) _).drewN _)) k3))
              clear h3 k3
              go_wp2_with (fail)
              go_roundw
              case rel => exact ⟨{ x' with pos := x'.pos + 1 }, m + 1, by go_num, by omega, by show x'.pos + 1 ≤ x'.s.length; omega, by have := H3.out.1; rwa [hnx.out] at this, HR.out.2.1, HR.out.2.2.1, H3.out.2, .inr (HN.out.step (by omega) (by omega) (by rintro ⟨_, _, h⟩; rw [HG.out.2] at h; omega) (by rintro ⟨h, _⟩; omega))⟩
              case measure => simp [intOf]; omega
          · have hcb : ((c.toNat : Int) == 13) = false := by simpa using hc13
            have hneb : ((x'.pos : Int) + 1 == x'.s.length) = false := by simp; omega
            have hnx : Hid (nextF x' = { x' with pos := x'.pos + 1 }) := Lib.hid (by unfold nextF; rw [if_pos (by omega), if_pos ho])
            go_wp2_with (fail)
            go_quiet (fail)
            go_wp2_with (fail)
            go_quiet (fail)
            go_wp2_with (fail)
            refine (next_any b x' _ (by exact H2.out.1) hp' hl').mono ?_
            rintro e w3 ⟨rfl, h3, k3⟩
            have H3 := Lib.hid (And.intro h3 (Kept.trans' (S := [b]) (a := w) (by first | exact H2.out.2 | exact H2.out.2.drewN _ | exact (H2.out.2.drewN _).drewN _ | exact (H2.out.2.setCell (.inl (by simp)) _) | exact (H2.out.2.drewN _).setCell (.inl (by simp)) _ | exact ((H2.out.2.drewN _).drewN _).setCell (.inl (by simp)) _ | exact ((H2.out.2.setCell (.inl (by simp)) _).drewN _)) k3))
            clear h3 k3
            go_wp2_with (fail)
            go_roundw
            case rel => exact ⟨{ x' with pos := x'.pos + 1 }, m + 1, by go_num, by omega, by show x'.pos + 1 ≤ x'.s.length; omega, by have := H3.out.1; rwa [hnx.out] at this, HR.out.2.1, HR.out.2.2.1, H3.out.2, .inr (HN.out.step (by omega) (by omega) (by rintro ⟨_, h, _⟩; rw [HG.out.1] at h; omega) (by rintro ⟨h, _⟩; omega))⟩
            case measure => simp [intOf]; omega
        · by_cases hle : (x'.pos : Int) + 1 = x'.s.length
          · obtain ⟨c, hc⟩ : ∃ c, x'.s[x'.pos]'(by omega) = c := ⟨_, rfl⟩
            have gc : x'.s.getD x'.pos 0 = c := by rw [← hc]; simp [List.getD, show x'.pos < x'.s.length by omega]
            have HG := Lib.hid gc
            clear gc
            have hlb : ((x'.pos : Int) + 1 == x'.s.length) = true := by simpa using hle
            by_cases hc13 : (c.toNat : Int) = 13
            · have hcb : ((c.toNat : Int) == 13) = true := by simpa using hc13
              have hnx : Hid (nextF { x' with short := true } = { x' with short := true }) := Lib.hid (by unfold nextF; rw [if_pos (by show (x'.pos : Int) < x'.s.length; omega), if_neg (by simp [okX])])
              go_wp2_with (fail)
              go_quiet (fail)
              go_wp2_with (fail)
              go_quiet (fail)
              go_wp2_with (fail)
              refine (next_any b { x' with short := true } _ (by refine XAt.set4 (x := x') ?_ true; exact H2.out.1) hp' hl').mono ?_
              rintro e w3 ⟨rfl, h3, k3⟩
              have H3 := Lib.hid (And.intro h3 (Kept.trans' (S := [b]) (a := w) (by first | exact H2.out.2 | exact H2.out.2.drewN _ | exact (H2.out.2.drewN _).drewN _ | exact (H2.out.2.setCell (.inl (by simp)) _) | exact (H2.out.2.drewN _).setCell (.inl (by simp)) _ | exact ((H2.out.2.drewN _).drewN _).setCell (.inl (by simp)) _ | exact ((H2.out.2.setCell (.inl (by simp)) _).drewN _)) k3))
              clear h3 k3
              go_wp2_with (fail)
              go_roundw
              case rel => exact ⟨{ x' with short := true }, m + 1, by go_num, by omega, hp', by have := H3.out.1; rwa [hnx.out] at this, HR.out.2.1, HR.out.2.2.1, H3.out.2, .inl (.inl ⟨rfl, HN.out.1, HN.out.shorts (by omega) (.inr ⟨by omega, by rw [HG.out]; omega⟩)⟩)⟩
              case measure => simp [intOf]; omega
            · have hcb : ((c.toNat : Int) == 13) = false := by simpa using hc13
              have hnx : Hid (nextF x' = { x' with pos := x'.pos + 1 }) := Lib.hid (by unfold nextF; rw [if_pos (by omega), if_pos ho])
              go_wp2_with (fail)
              go_quiet (fail)
              go_wp2_with (fail)
              go_quiet (fail)
              go_wp2_with (fail)
              refine (next_any b x' _ (by exact H2.out.1) hp' hl').mono ?_
              rintro e w3 ⟨rfl, h3, k3⟩
              have H3 := Lib.hid (And.intro h3 (Kept.trans' (S := [b]) (a := w) (by first | exact H2.out.2 | exact H2.out.2.drewN _ | exact (H2.out.2.drewN _).drewN _ | exact (H2.out.2.setCell (.inl (by simp)) _) | exact (H2.out.2.drewN _).setCell (.inl (by simp)) _ | exact ((H2.out.2.drewN _).drewN _).setCell (.inl (by simp)) _ | exact ((H2.out.2.setCell (.inl (by simp)) _).drewN _)) k3))
              clear h3 k3
              go_wp2_with (fail)
              go_roundw
              case rel => exact ⟨{ x' with pos := x'.pos + 1 }, m + 1, by go_num, by omega, by show x'.pos + 1 ≤ x'.s.length; omega, by have := H3.out.1; rwa [hnx.out] at this, HR.out.2.1, HR.out.2.2.1, H3.out.2, .inr (HN.out.step (by omega) (by omega) (by rintro ⟨h, _⟩; omega) (by rintro ⟨_, h⟩; rw [HG.out] at h; omega))⟩
              case measure => simp [intOf]; omega
          · have hlb : ((x'.pos : Int) + 1 == x'.s.length) = false := by simpa using hle
            have hdf : decide ((x'.pos : Int) + 1 < x'.s.length) = false := decide_eq_false hlt
            have hwr : IntKind.i64.wrap ((x'.pos : Int) + 1) = (x'.pos : Int) + 1 := by rw [IntKind.wrap_i64]; omega
            have hnx : Hid (nextF x' = { x' with short := true }) := Lib.hid (by unfold nextF; rw [if_neg (by omega)])
            go_wp2_with (fail)
            go_quiet (fail)
            go_wp2_with (fail)
            go_quiet (fail)
            go_wp2_with (fail)
            refine (next_any b x' _ (by exact H2.out.1) hp' hl').mono ?_
            rintro e w3 ⟨rfl, h3, k3⟩
            have H3 := Lib.hid (And.intro h3 (Kept.trans' (S := [b]) (a := w) (by first | exact H2.out.2 | exact H2.out.2.drewN _ | exact (H2.out.2.drewN _).drewN _ | exact (H2.out.2.setCell (.inl (by simp)) _) | exact (H2.out.2.drewN _).setCell (.inl (by simp)) _ | exact ((H2.out.2.drewN _).drewN _).setCell (.inl (by simp)) _ | exact ((H2.out.2.setCell (.inl (by simp)) _).drewN _)) k3))
            clear h3 k3
            go_wp2_with (fail)
            go_roundw
            case rel => exact ⟨{ x' with short := true }, m + 1, by go_num, by omega, hp', by have := H3.out.1; rwa [hnx.out] at this, HR.out.2.1, HR.out.2.2.1, H3.out.2, .inl (.inl ⟨rfl, HN.out.1, HN.out.shorts (by omega) (.inl (by omega))⟩)⟩
            case measure => simp [intOf]; omega
      · have h257 : m = 257 := by rcases HN.out.2.2.2.2 with ⟨h, _⟩ | ⟨h, _⟩ | ⟨h, _⟩ <;> omega
        have HW : Hid (Wrong x'.s 181) := Lib.hid (by
          rcases HN.out.2.2.2.2 with ⟨h, _⟩ | ⟨h, _⟩ | ⟨_, h⟩
          · omega
          · omega
          · exact h)
        have hm6' : decide ((m : Int) ≤ 256) = false := decide_eq_false hm6
        have ho2 : okX { x' with e := 181 } = false := by simp [okX]
        have ho3 : okX { x' with e := 181, short := true } = false := by simp [okX]
        go_wp2_with (fail)
        refine (okX_any b x' wr HR.out.1).mono ?_
        rintro e w' ⟨rfl, rfl⟩
        rw [ho]
        go_wp2_with (fail)
        refine (must_any b x' false 181 wr HR.out.1).mono ?_
        rintro e w2 ⟨rfl, h2, k2⟩
        have hmu : mustF x' false 181 = { x' with e := 181 } := by simp [mustF, ho]
        rw [hmu] at h2
        have H2 := Lib.hid (And.intro h2 (HR.out.2.2.2.trans' k2))
        obtain ⟨c0, c1, c2, c3, c4⟩ := h2.cells
        obtain ⟨f0, f1, f2, f3, f4⟩ := h2.free
        simp only at c0 c1 c2 c3 c4
        clear hmu h2 k2
        by_cases hlt : (x'.pos : Int) + 1 < x'.s.length
        · obtain ⟨c, hc⟩ : ∃ c, x'.s[x'.pos]'(by omega) = c := ⟨_, rfl⟩
          obtain ⟨d, hd⟩ : ∃ c, x'.s[x'.pos + 1]'(by omega) = c := ⟨_, rfl⟩
          have hneb : ((x'.pos : Int) + 1 == x'.s.length) = false := by simp; omega
          have hnx : Hid (nextF { x' with e := 181 } = { x' with e := 181 }) := Lib.hid (by unfold nextF; rw [if_pos (by show (x'.pos : Int) < x'.s.length; omega), if_neg (by simp [ho2])])
          by_cases hc13 : (c.toNat : Int) = 13
          · by_cases hd10 : (d.toNat : Int) = 10
            · go_wp2_with (fail)
              go_quiet (fail)
              go_wp2_with (fail)
              refine (okX_any b { x' with e := 181 } (w2.drewN nq) H2.out.1).mono ?_
              rintro e w' ⟨rfl, rfl⟩
              rw [ho2]
              go_wp2_with (fail)
              exact bodyPost_ret (v := .tuple #[]) (by simp [results, Tryd.results33, go_sem]) rfl ⟨rfl, H2.out.2.drewN nq, { x' with e := 181 }, H2.out.1, HR.out.2.1, HR.out.2.2.1, .inl (.inr ⟨by show (181 : Int) ≠ 0; decide, HW.out⟩)⟩
            · have hdb : ((d.toNat : Int) == 10) = false := by simpa using hd10
              go_wp2_with (fail)
              go_quiet (fail)
              go_wp2_with (fail)
              go_quiet (fail)
              go_wp2_with (fail)
              refine (next_any b { x' with e := 181 } _ (by exact H2.out.1) hp' hl').mono ?_
              rintro e w3 ⟨rfl, h3, k3⟩
              have H3 := Lib.hid (And.intro h3 (Kept.trans' (S := [b]) (a := w) (by first | exact H2.out.2 | exact H2.out.2.drewN _ | exact (H2.out.2.drewN _).drewN _ | exact (H2.out.2.setCell (.inl (by simp)) _) | exact (H2.out.2.drewN _).setCell (.inl (by simp)) _ | exact ((H2.out.2.drewN _).drewN _).setCell (.inl (by simp)) _ | exact ((H2.out.2.setCell (.inl (by simp)) _).drewN _)) k3))
              clear h3 k3
              go_wp2_with (fail)
              go_roundw
              case rel => exact ⟨{ x' with e := 181 }, m + 1, by go_num, by omega, hp', by have := H3.out.1; rwa [hnx.out] at this, HR.out.2.1, HR.out.2.2.1, H3.out.2, .inl (.inr ⟨by show (181 : Int) ≠ 0; decide, HW.out⟩)⟩
              case measure => simp [intOf]; omega
          · have hcb : ((c.toNat : Int) == 13) = false := by simpa using hc13
            go_wp2_with (fail)
            go_quiet (fail)
            go_wp2_with (fail)
            go_quiet (fail)
            go_wp2_with (fail)
            refine (next_any b { x' with e := 181 } _ (by exact H2.out.1) hp' hl').mono ?_
            rintro e w3 ⟨rfl, h3, k3⟩
            have H3 := Lib.hid (And.intro h3 (Kept.trans' (S := [b]) (a := w) (by first | exact H2.out.2 | exact H2.out.2.drewN _ | exact (H2.out.2.drewN _).drewN _ | exact (H2.out.2.setCell (.inl (by simp)) _) | exact (H2.out.2.drewN _).setCell (.inl (by simp)) _ | exact ((H2.out.2.drewN _).drewN _).setCell (.inl (by simp)) _ | exact ((H2.out.2.setCell (.inl (by simp)) _).drewN _)) k3))
            clear h3 k3
            go_wp2_with (fail)
            go_roundw
            case rel => exact ⟨{ x' with e := 181 }, m + 1, by go_num, by omega, hp', by have := H3.out.1; rwa [hnx.out] at this, HR.out.2.1, HR.out.2.2.1, H3.out.2, .inl (.inr ⟨by show (181 : Int) ≠ 0; decide, HW.out⟩)⟩
            case measure => simp [intOf]; omega
        · by_cases hle : (x'.pos : Int) + 1 = x'.s.length
          · obtain ⟨c, hc⟩ : ∃ c, x'.s[x'.pos]'(by omega) = c := ⟨_, rfl⟩
            have hlb : ((x'.pos : Int) + 1 == x'.s.length) = true := by simpa using hle
            by_cases hc13 : (c.toNat : Int) = 13
            · have hcb : ((c.toNat : Int) == 13) = true := by simpa using hc13
              have hnx : Hid (nextF { x' with e := 181, short := true } = { x' with e := 181, short := true }) := Lib.hid (by unfold nextF; rw [if_pos (by show (x'.pos : Int) < x'.s.length; omega), if_neg (by simp [ho3])])
              go_wp2_with (fail)
              go_quiet (fail)
              go_wp2_with (fail)
              go_quiet (fail)
              go_wp2_with (fail)
              refine (next_any b { x' with e := 181, short := true } _ (by refine XAt.set4 (x := { x' with e := 181 }) ?_ true; exact H2.out.1) hp' hl').mono ?_
              rintro e w3 ⟨rfl, h3, k3⟩
              have H3 := Lib.hid (And.intro h3 (Kept.trans' (S := [b]) (a := w) (by first | exact H2.out.2 | exact H2.out.2.drewN _ | exact (H2.out.2.drewN _).drewN _ | exact (H2.out.2.setCell (.inl (by simp)) _) | exact (H2.out.2.drewN _).setCell (.inl (by simp)) _ | exact ((H2.out.2.drewN _).drewN _).setCell (.inl (by simp)) _ | exact ((H2.out.2.setCell (.inl (by simp)) _).drewN _)) k3))
              clear h3 k3
              go_wp2_with (fail)
              go_roundw
              case rel => exact ⟨{ x' with e := 181, short := true }, m + 1, by go_num, by omega, hp', by have := H3.out.1; rwa [hnx.out] at this, HR.out.2.1, HR.out.2.2.1, H3.out.2, .inl (.inr ⟨by show (181 : Int) ≠ 0; decide, HW.out⟩)⟩
              case measure => simp [intOf]; omega
            · have hcb : ((c.toNat : Int) == 13) = false := by simpa using hc13
              have hnx : Hid (nextF { x' with e := 181 } = { x' with e := 181 }) := Lib.hid (by unfold nextF; rw [if_pos (by show (x'.pos : Int) < x'.s.length; omega), if_neg (by simp [ho2])])
              go_wp2_with (fail)
              go_quiet (fail)
              go_wp2_with (fail)
              go_quiet (fail)
              go_wp2_with (fail)
              refine (next_any b { x' with e := 181 } _ (by exact H2.out.1) hp' hl').mono ?_
              rintro e w3 ⟨rfl, h3, k3⟩
              have H3 := Lib.hid (And.intro h3 (Kept.trans' (S := [b]) (a := w) (by first | exact H2.out.2 | exact H2.out.2.drewN _ | exact (H2.out.2.drewN _).drewN _ | exact (H2.out.2.setCell (.inl (by simp)) _) | exact (H2.out.2.drewN _).setCell (.inl (by simp)) _ | exact ((H2.out.2.drewN _).drewN _).setCell (.inl (by simp)) _ | exact ((H2.out.2.setCell (.inl (by simp)) _).drewN _)) k3))
              clear h3 k3
              go_wp2_with (fail)
              go_roundw
              case rel => exact ⟨{ x' with e := 181 }, m + 1, by go_num, by omega, hp', by have := H3.out.1; rwa [hnx.out] at this, HR.out.2.1, HR.out.2.2.1, H3.out.2, .inl (.inr ⟨by show (181 : Int) ≠ 0; decide, HW.out⟩)⟩
              case measure => simp [intOf]; omega
          · have hlb : ((x'.pos : Int) + 1 == x'.s.length) = false := by simpa using hle
            have hdf : decide ((x'.pos : Int) + 1 < x'.s.length) = false := decide_eq_false hlt
            have hwr : IntKind.i64.wrap ((x'.pos : Int) + 1) = (x'.pos : Int) + 1 := by rw [IntKind.wrap_i64]; omega
            have hnx : Hid (nextF { x' with e := 181 } = { x' with e := 181, short := true }) := Lib.hid (by unfold nextF; rw [if_neg (by show ¬ (x'.pos : Int) < x'.s.length; omega)])
            go_wp2_with (fail)
            go_quiet (fail)
            go_wp2_with (fail)
            go_quiet (fail)
            go_wp2_with (fail)
            refine (next_any b { x' with e := 181 } _ (by exact H2.out.1) hp' hl').mono ?_
            rintro e w3 ⟨rfl, h3, k3⟩
            have H3 := Lib.hid (And.intro h3 (Kept.trans' (S := [b]) (a := w) (by first | exact H2.out.2 | exact H2.out.2.drewN _ | exact (H2.out.2.drewN _).drewN _ | exact (H2.out.2.setCell (.inl (by simp)) _) | exact (H2.out.2.drewN _).setCell (.inl (by simp)) _ | exact ((H2.out.2.drewN _).drewN _).setCell (.inl (by simp)) _ | exact ((H2.out.2.setCell (.inl (by simp)) _).drewN _)) k3))
            clear h3 k3
            go_wp2_with (fail)
            go_roundw
            case rel => exact ⟨{ x' with e := 181, short := true }, m + 1, by go_num, by omega, hp', by have := H3.out.1; rwa [hnx.out] at this, HR.out.2.1, HR.out.2.2.1, H3.out.2, .inl (.inr ⟨by show (181 : Int) ≠ 0; decide, HW.out⟩)⟩
            case measure => simp [intOf]; omega
end BD
end Go.Proofs.YtgdncdhalnijcaaDoor
