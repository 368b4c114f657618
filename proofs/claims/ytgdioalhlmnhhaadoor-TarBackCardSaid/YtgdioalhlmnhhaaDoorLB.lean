/- Walks and lemmas on the program of this seat, used by its statements; each theorem bears its own conditions. -/
import Derived.Test.YtgdioalhlmnhhaaDoorLK
import Derived.Handy
import Derived.Deep.CutRange
namespace Go.Proofs.YtgdioalhlmnhhaaDoor
open Go.RowKit
set_option linter.unusedVariables false
set_option linter.unusedSimpArgs false
/-! ### TarBack -/
set_option maxHeartbeats 16000000
set_option maxRecDepth 100000
theorem takes_head (b : Nat) (nm0 : List UInt8) (sz0 mn : Int) (name : List UInt8) (n : Nat) (cut : Int) (w : World) (h : RdAt w b (base nm0 sz0 0 mn)) (hok : TX.OkR (base nm0 sz0 0 mn)) (hM : ML w) (hn : TX.okHead name n = true) (hn2 : n ≤ 2000) :
    Calls Tryd.prog 27 #[Ptr b, .agg #[S (TX.headL name n), .bool false], I cut] w fun e w' => e = .returned (.bool true) ∧ RdAt w' b (dataSt name n (mn + 1) 0) ∧ Kept [b] w w' := by
  simp only [TX.okHead, decide_eq_true_eq] at hn
  obtain ⟨h1, h2, h3, h4⟩ := hn
  have hl := TX.headL_len name n h2
  have hp := TX.parse_head name n h1 h2 h3 (by omega)
  have htr := track_block nm0 sz0 0 mn (TX.headL name n) (dataSt name n (mn + 1) 0) hl (by omega) hok (by rw [hp]) (.inr ⟨by rw [hp], rfl, by rw [hp]; simp [dataSt]⟩)
  have := takes_any b (TX.headL name n) false cut _ w htr (by simpa [blockSt, base] using h) hM (by omega)
  rw [hl] at this
  exact this
theorem takes_data (b : Nat) (nm D : List UInt8) (mn cut : Int) (w : World) (h : RdAt w b (dataSt nm D.length mn 0)) (hM : ML w) (hD : D.length ≤ 2000) (hmn : 0 ≤ mn ∧ mn ≤ 1000000000) :
    Calls Tryd.prog 27 #[Ptr b, .agg #[S D, .bool true], I cut] w fun e w' => e = .returned (.bool true) ∧ RdAt w' b (fillSt nm D.length mn (TX.fillOf D.length).toNat 0) ∧ Kept [b] w w' := by
  refine (takes_any b D true cut _ w (track_data nm D mn (by omega) hmn) h hM (by omega)).mono fun e w' ⟨h1, h2, h3⟩ => ⟨h1, ?_, h3⟩
  have hfr := TX.fill_range (D.length : Int)
  have : dataSt nm D.length mn D.length = fillSt nm D.length mn (TX.fillOf D.length).toNat 0 := by
    unfold dataSt fillSt
    congr 1 <;> omega
  rw [← this]; exact h2
theorem takes_fill (b : Nat) (nm : List UInt8) (sz mn cut : Int) (f : Nat) (w : World) (h : RdAt w b (fillSt nm sz mn f 0)) (hM : ML w) (hf : f ≤ 512) (hsz : 0 ≤ sz ∧ sz ≤ 1048576) (hmn : 0 ≤ mn ∧ mn ≤ 1000000000) :
    Calls Tryd.prog 27 #[Ptr b, .agg #[S (zerosL f), .bool false], I cut] w fun e w' => e = .returned (.bool true) ∧ RdAt w' b (base nm sz 0 mn) ∧ Kept [b] w w' := by
  refine (takes_any b (zerosL f) false cut _ w (track_fill nm sz mn f hf hsz hmn) h hM (by rw [zerosL_len]; omega)).mono fun e w' ⟨h1, h2, h3⟩ => ⟨h1, ?_, h3⟩
  rw [zerosL_len] at h2
  have : fillSt nm sz mn f f = base nm sz 0 mn := by unfold fillSt base; congr 1; omega
  rw [← this]; exact h2
theorem takes_end (b : Nat) (nm : List UInt8) (sz en mn cut : Int) (w : World) (h : RdAt w b (base nm sz en mn)) (hok : TX.OkR (base nm sz en mn)) (hen : en ≠ 2) (hM : ML w) :
    Calls Tryd.prog 27 #[Ptr b, .agg #[S (zerosL 512), .bool false], I cut] w fun e w' => e = .returned (.bool true) ∧ RdAt w' b (base nm sz (en + 1) mn) ∧ Kept [b] w w' := by
  have hp : TX.parseL (zerosL 512) = ⟨[], 0, true, 0⟩ := TX.parse_zeros
  have htr := track_block nm sz en mn (zerosL 512) (base nm sz (en + 1) mn) (zerosL_len _) hen hok (by rw [hp]) (.inl ⟨by rw [hp], rfl⟩)
  have := takes_any b (zerosL 512) false cut _ w htr (by simpa [blockSt, base] using h) hM (by rw [zerosL_len]; omega)
  rw [zerosL_len] at this
  exact this
theorem ok_data (nm D : List UInt8) (mn : Int) (hD : D.length ≤ 2000) (hmn : 0 ≤ mn ∧ mn ≤ 1000000000) : TX.OkR (dataSt nm D.length mn 0) := by
  have hfr := TX.fill_range (D.length : Int)
  exact ⟨by simp [dataSt], by show 0 ≤ (D.length : Int) ∧ (D.length : Int) ≤ 1048576; omega, by show 0 ≤ (D.length : Int) - (0 : Nat) ∧ (D.length : Int) - (0 : Nat) ≤ 1048576; omega, by show 0 ≤ TX.fillOf (D.length : Int) ∧ TX.fillOf (D.length : Int) ≤ 512; omega, by simp [dataSt], hmn⟩
theorem clone_write (nm D X : List UInt8) (mn : Int) (hD : 0 < D.length) : ∃ r', TX.writeF (dataSt nm D.length mn 0) (D ++ X) = ⟨D.length, D, 0, r'⟩ := by
  have h := wf_data (dataSt nm D.length mn 0) (D ++ X) rfl (by simp [TX.doneB, dataSt]; intro h; rw [h] at hD; simp at hD) (by show (0 : Int) < (D.length : Int) - (0 : Nat); omega) D.length (by rw [List.length_append]; show min _ ((D.length : Int) - (0 : Nat)).toNat = _; omega)
  rw [List.take_left' rfl] at h
  exact ⟨_, h⟩
abbrev behind : List UInt8 := [98, 101, 104, 105, 110, 100]
/-- What a round knows of the memory: the reader, and that all that was there is as it was. -/
structure MB (w0 : World) (b : Nat) (rd : TX.Rd) (w : World) : Prop where
  rd : RdAt w b rd
  kept : Kept [] w0 w
  hb : w0.heap.size ≤ b
  ml : ML w
theorem MB.go {w0 : World} {b : Nat} {rd : TX.Rd} {w w' : World} (h : MB w0 b rd w) (k : Kept [] w w') : MB w0 b rd w' := ⟨h.rd.kept k (by simp), h.kept.trans' k, h.hb, h.ml.kept k⟩
theorem MB.to {w0 : World} {b : Nat} {rd rd' : TX.Rd} {w w' : World} (h : MB w0 b rd w) (hr : RdAt w' b rd') (k : Kept [b] w w') : MB w0 b rd' w' := ⟨hr, h.kept.new1 k h.hb, h.hb, h.ml.keptR h.rd k⟩
theorem MB.drew {w0 : World} {b : Nat} {rd : TX.Rd} {w : World} (h : MB w0 b rd w) : MB w0 b rd w.drew := h.go (Kept.refl _ _).drew
theorem backLaw_any (nv dv cv : Value) (ns ds : List (List UInt8)) (cs : List Int) (w : World) (hn : TextsAt w nv ns) (hd : TextsAt w dv ds) (hc : IntsAt w cv cs) (hM : ML w) :
    Calls Tryd.prog 6 #[nv, dv, cv] w fun e w' => e = .returned (.bool true) ∧ Kept [] w w' := by
  obtain ⟨np, nc, rfl, hnl, hncell⟩ := hn
  obtain ⟨dp, dc, rfl, hdl, hdcell⟩ := hd
  obtain ⟨cp, cc, rfl, hcl, hccell⟩ := hc
  have HA := Lib.hid (And.intro hncell (And.intro hdcell (And.intro hccell hM)))
  clear hncell hdcell hccell hM
  go_enter Tryd.func6, Tryd.ntmps6
  go_wp2_with (fail)
  refine (new_any w).mono ?_
  rintro e w1 ⟨b, rfl, r1, k1, hb1⟩
  have H1 : Hid (MB w b (base [] 0 0 0) w1) := Lib.hid ⟨r1, k1, hb1, HA.out.2.2.2.kept k1⟩
  clear r1 k1 hb1
  go_wp2_with (fail)
  go_loopw [8] (fun iv wr => ∃ (i : Nat) (nm : List UInt8) (sz mn : Int), iv = I i ∧ i ≤ 20 ∧ MB w b (base nm sz 0 mn) wr ∧ TX.OkR (base nm sz 0 mn) ∧ mn ≤ i) (fun i _ => 20 - (intOf i).toNat)
  case atStart => exact ⟨0, [], 0, 0, rfl, by omega, H1.out, TX.OkR.zero, by omega⟩
  case round =>
    obtain ⟨i, nm, sz, mn, rfl, hi, hmb, hok, hmi⟩ := hrel
    have HM := Lib.hid hmb
    have HO := Lib.hid (And.intro hok hmi)
    clear hmb hok hmi
    by_cases hgo : i < ns.length ∧ i < ds.length ∧ i < 20
    case neg =>
      have hg : ¬ (i : Int) < ns.length ∨ ((i : Int) < ns.length ∧ ¬ (i : Int) < ds.length) ∨ ((i : Int) < ns.length ∧ (i : Int) < ds.length ∧ ¬ (i : Int) < 20) := by omega
      have hm : (Instr.makeSlice 31 (.int .i64 512) (.int .i64 512)).run Tryd.prog wr = .ok (.slice (some ⟨wr.heap.size, 0, none⟩) 512 512) (wr.alloc (.cells (Lib.byteCells (zerosL 512)).toArray 5)) := make_bytes wr 512 (by omega)
      have hrow : Row (wr.alloc (.cells (Lib.byteCells (zerosL 512)).toArray 5)) wr.heap.size (zerosL 512) := heap_new wr _
      obtain ⟨W, hW⟩ : ∃ W, wr.alloc (.cells (Lib.byteCells (zerosL 512)).toArray 5) = W := ⟨_, rfl⟩
      rw [hW] at hm hrow
      have H2 : Hid (MB w b (base nm sz 0 mn) W) := Lib.hid (HM.out.go (hW ▸ (Kept.refl [] wr).alloc _ : Kept [] wr W))
      have hcv := conv_row hrow 512
      rw [zerosL_len] at hcv
      have hok1 : TX.OkR (base nm sz 1 mn) := ⟨HO.out.1.hd, HO.out.1.sz, HO.out.1.lf, HO.out.1.fl, by simp [base], HO.out.1.mn⟩
      have HO1 := Lib.hid hok1
      have hok3 : TX.OkR (base nm sz 2 mn) := ⟨HO.out.1.hd, HO.out.1.sz, HO.out.1.lf, HO.out.1.fl, by simp [base], HO.out.1.mn⟩
      have HO2 := Lib.hid hok3
      have hend : TX.writeF (base nm sz 2 mn) behind = ⟨0, [], 0, base nm sz 2 mn⟩ := wf_none _ _ rfl (.inl (by simp [TX.doneB, base]))
      have HE := Lib.hid hend
      clear hgo hW hrow hok1 hok3 hend
      have hd0 : TX.doneB (base nm sz 0 mn) = false := by simp [TX.doneB, base]
      have hd1 : TX.doneB (base nm sz 1 mn) = false := by simp [TX.doneB, base]
      have hd2 : TX.doneB (base nm sz 2 mn) = true := by simp [TX.doneB, base]
      have HDN := Lib.hid (And.intro hd0 (And.intro hd1 hd2))
      clear hd0 hd1 hd2
      rcases hg with hg | ⟨hg, hg2⟩ | ⟨hg, hg2, hg3⟩ <;>
      · go_wp2_with (fail)
        refine (done_any b _ W H2.out.rd).mono ?_
        rw [HDN.out.1]
        rintro e w3 ⟨rfl, rfl⟩
        go_wp2_with (fail)
        refine (takes_end b nm sz 0 mn 0 W H2.out.rd HO.out.1 (by omega) H2.out.ml).mono ?_
        rintro e w3 ⟨rfl, r3, k3⟩
        have H3 : Hid (MB w b (base nm sz 1 mn) w3) := Lib.hid (H2.out.to r3 k3)
        clear r3 k3
        go_wp2_with (fail)
        refine (done_any b _ w3 H3.out.rd).mono ?_
        rw [HDN.out.2.1]
        rintro e w4 ⟨rfl, rfl⟩
        go_wp2_with (fail)
        refine (takes_end b nm sz 1 mn 9 w3 H3.out.rd HO1.out (by omega) H3.out.ml).mono ?_
        rintro e w4 ⟨rfl, r4, k4⟩
        have H4 : Hid (MB w b (base nm sz 2 mn) w4) := Lib.hid (H3.out.to r4 k4)
        clear r4 k4
        go_wp2_with (fail)
        refine (write_any b _ behind w4 H4.out.rd HO2.out H4.out.ml (by simp [behind])).mono ?_
        rw [HE.out]
        rintro e w5 ⟨rfl, r5, k5⟩
        have H5 : Hid (MB w b (base nm sz 2 mn) w5) := Lib.hid (H4.out.to r5 k5)
        clear r5 k5
        dsimp only [VW]
        go_wp2_with (fail)
        refine (done_any b _ w5 H5.out.rd).mono ?_
        rw [HDN.out.2.2]
        rintro e w6 ⟨rfl, rfl⟩
        go_wp2_with (fail)
        refine (fixed_any w5 H5.out.ml).mono ?_
        rintro e w6 ⟨rfl, k6⟩
        go_wp2
        go_ret
        exact ⟨rfl, H5.out.kept.trans' k6⟩
    obtain ⟨g1, g2, g3⟩ := hgo
    have g1' : (i : Int) < ns.length := by omega
    have g2' : (i : Int) < ds.length := by omega
    have g3' : (i : Int) < 20 := by omega
    obtain ⟨nb, no, hnp, hnx⟩ := HA.out.1 (by intro e; rw [e] at g1; simp at g1)
    obtain ⟨db, dof, hdp, hdx⟩ := HA.out.2.1 (by intro e; rw [e] at g2; simp at g2)
    subst hnp
    subst hdp
    obtain ⟨nmI, hnmI⟩ : ∃ x, ns.getD i [] = x := ⟨_, rfl⟩
    obtain ⟨D, hD⟩ : ∃ x, ds.getD i [] = x := ⟨_, rfl⟩
    have n0 := hnx i g1
    have d0 := hdx i g2
    rw [hnmI] at n0
    rw [hD] at d0
    have HC0 := Lib.hid (And.intro n0 d0)
    have cN := cellOf_kept HM.out.kept n0
    have cD := cellOf_kept HM.out.kept d0
    clear hnx hdx hnmI hD n0 d0 g1 g2 g3
    by_cases hlong : (D.length : Int) > 2000
    · go_wp2_with (fail)
      go_roundw
      case rel => exact ⟨i + 1, nm, sz, mn, by go_num, by omega, HM.out, HO.out.1, by have := HO.out.2; omega⟩
      case measure => (simp [intOf]; omega)
    have hDl : (D.length : Int) ≤ 2000 := by omega
    clear hlong
    go_upto_region 8 with (fail)
    go_cut [9, 10] from 46 to 58 (fun v9 v10 wx => v9 = S (TX.headF nmI D.length).1 ∧ v10 = I (TX.headF nmI D.length).2 ∧ MB w b (base nm sz 0 mn) wx)
    case first =>
      go_region_with ((go_at_call 15; (with_reducible refine (head_any nmI D.length _).mono ?_); rintro e w2 ⟨rfl, k2⟩; have H2 := Lib.hid (HM.out.drew.go k2); clear k2))
      all_goals (go_wp2_with (fail); go_meet; exact ⟨rfl, rfl, H2.out⟩)
    case rest =>
    obtain ⟨rfl, rfl, hwm⟩ := hcut
    have HWX : ∃ w2, wc = w2 := ⟨_, rfl⟩
    obtain ⟨w2, hw2⟩ := HWX
    rw [hw2] at hwm ⊢
    clear hw2 wc
    have H2 := Lib.hid hwm
    clear hwm
    have dN := cellOf_kept H2.out.kept HC0.out.1
    have dD := cellOf_kept H2.out.kept HC0.out.2
    clear cN cD
    by_cases hok2 : TX.okHead nmI D.length = true
    case neg =>
      have he : TX.headF nmI D.length = ([], 200) := by unfold TX.headF; rw [if_pos (by simpa using hok2)]
      rw [he]
      clear he hok2
      go_wp2_with (fail)
      go_roundw
      case rel => exact ⟨i + 1, nm, sz, mn, by go_num, by omega, H2.out, HO.out.1, by have := HO.out.2; omega⟩
      case measure => (simp [intOf]; omega)
    have he : TX.headF nmI D.length = (TX.headL nmI D.length, 0) := by unfold TX.headF; rw [if_neg (by rw [hok2]; simp), if_neg (by omega), Int.toNat_natCast]
    rw [he]
    have hmn : 0 ≤ mn ∧ mn ≤ 20 := ⟨HO.out.1.mn.1, by have := HO.out.2; omega⟩
    have HK := Lib.hid (And.intro hok2 hmn)
    clear he hok2 hmn
    have HD9 : Hid (D.length ≤ 2000) := Lib.hid (by omega)
    go_upto_if 64 with (fail)
    go_cut [11] from 61 to 68 (fun v wx => ∃ c : Int, v = I c ∧ wx = w2)
    case first =>
      by_cases hic : i < cs.length
      · obtain ⟨cb, co, hcp, hcx⟩ := HA.out.2.2.1 (by intro e; rw [e] at hic; simp at hic)
        subst hcp
        have hcell := cellOf_kept H2.out.kept (hcx i hic)
        have hic' : (i : Int) < cs.length := by omega
        obtain ⟨c, hc⟩ : ∃ c, cs.getD i 0 = c := ⟨_, rfl⟩
        rw [hc] at hcell
        clear hcx hc hic
        go_wp2_with (fail)
        all_goals (go_meet; exact ⟨c, rfl, rfl⟩)
      · have hic' : ¬ (i : Int) < cs.length := by omega
        clear hic
        go_wp2_with (fail)
        all_goals (go_meet; exact ⟨0, rfl, rfl⟩)
    case rest =>
      obtain ⟨c, rfl, hwc⟩ := hcut
      replace hwc := hwc.symm
      subst hwc
      go_wp2_with (fail)
      refine (takes_head b nm sz mn nmI D.length c w2 H2.out.rd HO.out.1 H2.out.ml HK.out.1 HD9.out).mono ?_
      rintro e w3 ⟨rfl, r3, k3⟩
      have H3 := Lib.hid (H2.out.to r3 k3)
      clear r3 k3 dN dD
      go_wp2_with (fail)
      refine (file_any b _ w3 H3.out.rd).mono ?_
      rintro e w4 ⟨rfl, k4⟩
      have H4 := Lib.hid (H3.out.go k4)
      have eN := cellOf_kept H4.out.kept HC0.out.1
      have eD := cellOf_kept H4.out.kept HC0.out.2
      clear k4
      dsimp only [dataSt]
      have hz0 : (D.length : Int) - ((0 : Nat) : Int) = D.length := by omega
      rw [hz0]
      clear hz0
      have hsumD : D.length + 6 ≤ 9223372036854775807 := by have := HD9.out; omega
      obtain ⟨⟨Xn, Xd, Xe, Xr⟩, hX⟩ : ∃ X, TX.writeF (dataSt nmI D.length (mn + 1) 0) (D ++ behind) = X := ⟨_, rfl⟩
      have HXX := Lib.hid hX
      clear hX
      go_upto_region 18 with (fail)
      go_cut [15, 16, 10] from 101 to 112 (fun v15 v16 v10 wx => v15 = I Xn ∧ v16 = S Xd ∧ v10 = I Xe ∧ MB w b (dataSt nmI D.length (mn + 1) 0) wx)
      case first =>
        have fD := cellOf_kept H4.out.drew.kept HC0.out.2
        go_region_with ((first
          | (go_at_call 22; (with_reducible refine (clone_any b (dataSt nmI D.length (mn + 1) 0) _ H4.out.drew.rd).mono ?_); rintro e w5 ⟨b5, rfl, r5, k5, hb5⟩; have H5 := Lib.hid (And.intro (H4.out.drew.go k5) (And.intro r5 (And.intro hb5 (H4.out.drew.go k5).ml))); have gD := cellOf_kept H5.out.1.kept HC0.out.2; clear r5 k5 hb5)
          | (go_at_call 23; (with_reducible refine (write_any _ (dataSt nmI D.length (mn + 1) 0) (D ++ behind) _ H5.out.2.1 (ok_data nmI D (mn + 1) HD9.out (by have := HK.out.2; omega)) H5.out.1.ml (by have := HD9.out; rw [List.length_append]; simp [behind]; omega)).mono ?_); rw [HXX.out]; rintro e w6 ⟨rfl, _, k6⟩; dsimp only [VW])))
        all_goals
          have hne : b ∉ [b5] := by
            have h1 := H4.out.drew.rd.lt
            have h2 := H5.out.2.2.1
            simp; omega
          have hkk := H5.out.1.kept.new1 k6 (Nat.le_trans H4.out.drew.kept.size H5.out.2.2.1)
          have H7 : Hid (MB w b (dataSt nmI D.length (mn + 1) 0) w6) := Lib.hid ⟨H5.out.1.rd.kept k6 hne, hkk, H4.out.hb, HA.out.2.2.2.kept hkk⟩
          clear hne hkk k6
          go_wp2_with (fail)
          go_meet
          exact ⟨rfl, rfl, rfl, H7.out⟩
      case rest =>
        obtain ⟨rfl, rfl, rfl, hwm⟩ := hcut
        have HWX : ∃ w6, wc = w6 := ⟨_, rfl⟩
        obtain ⟨w6, hw6⟩ := HWX
        rw [hw6] at hwm ⊢
        clear hw6 wc
        have H8 := Lib.hid hwm
        have iD := cellOf_kept hwm.kept HC0.out.2
        clear hwm eN eD
        have hx : D.length = 0 ∨ 0 < D.length ∧ Xn = D.length ∧ Xd = D ∧ Xe = 0 := by
          rcases Nat.eq_zero_or_pos D.length with h | h
          · exact .inl h
          · obtain ⟨r', hr'⟩ := clone_write nmI D behind (mn + 1) h
            rw [HXX.out] at hr'
            injection hr' with q1 q2 q3 q4
            exact .inr ⟨h, q1, q2, q3⟩
        go_upto_region 19 with (fail)
        go_cut [10, 15, 16, 147] from 113 to 146 (fun v10 v15 v16 v wx => v = .bool false ∧ wx = w6)
        case first =>
          rcases hx with hx | ⟨hx, h1, h2, h3⟩
          · obtain rfl : D = [] := List.eq_nil_of_length_eq_zero hx
            go_wp2_with (fail)
            all_goals (go_meet; first | exact ⟨rfl, rfl⟩ | (refine ⟨?_, rfl⟩; simp_all))
          · have hxx : (0 : Int) < (D.length : Int) := by omega
            subst h1
            subst h2
            subst h3
            go_wp2_with (fail)
            all_goals (go_meet; first | exact ⟨rfl, rfl⟩ | (refine ⟨?_, rfl⟩; simp_all))
        case rest =>
          obtain ⟨rfl, hwc⟩ := hcut
          replace hwc := hwc.symm
          subst hwc
          clear hx
          go_wp2_with (fail)
          refine (takes_data b nmI D (mn + 1) c w6 H8.out.rd H8.out.ml HD9.out (by have := HK.out.2; omega)).mono ?_
          rintro e w9 ⟨rfl, r9, k9⟩
          have H9 := Lib.hid (H8.out.to r9 k9)
          clear r9 k9 iD
          have jD := cellOf_kept H9.out.kept HC0.out.2
          obtain ⟨f, hf⟩ : ∃ f : Nat, TX.fillOf D.length = (f : Int) := ⟨(TX.fillOf D.length).toNat, by have := TX.fill_range (D.length : Int); omega⟩
          have hf5 : f ≤ 512 := by have := TX.fill_range (D.length : Int); omega
          have hff : (-((D.length : Int) % 512) % 512) = (f : Int) := by unfold TX.fillOf at hf; omega
          have hm := make_bytes w9 f (by omega)
          have hrow : Row (w9.alloc (.cells (Lib.byteCells (zerosL f)).toArray 5)) w9.heap.size (zerosL f) := heap_new w9 _
          obtain ⟨W, hW⟩ : ∃ W, w9.alloc (.cells (Lib.byteCells (zerosL f)).toArray 5) = W := ⟨_, rfl⟩
          rw [hW] at hm hrow
          have H10 : Hid (MB w b (fillSt nmI D.length (mn + 1) f 0) W) := Lib.hid (by
            have h := H9.out.go (hW ▸ (Kept.refl [] w9).alloc _ : Kept [] w9 W)
            rw [hf, Int.toNat_natCast] at h
            exact h)
          have hcv := conv_row hrow f
          rw [zerosL_len] at hcv
          have HF5 := Lib.hid hf5
          clear hf hf5 hW hrow
          go_wp2_with (fail)
          refine (takes_fill b nmI D.length (mn + 1) c f W H10.out.rd H10.out.ml HF5.out (by have := HD9.out; omega) (by have := HK.out.2; omega)).mono ?_
          rintro e w11 ⟨rfl, r11, k11⟩
          have H11 := Lib.hid (H10.out.to r11 k11)
          clear r11 k11 hm hcv jD
          go_wp2_with (fail)
          go_roundw
          case rel => exact ⟨i + 1, nmI, D.length, mn + 1, by go_num, by omega, H11.out, ⟨by simp [base], by show 0 ≤ (D.length : Int) ∧ (D.length : Int) ≤ 1048576; have := HD9.out; omega, by simp [base], by simp [base], by simp [base], by show 0 ≤ mn + 1 ∧ mn + 1 ≤ 1000000000; have := HK.out.2; omega⟩, by have := HO.out.2; omega⟩
          case measure => (simp [intOf]; omega)
end Go.Proofs.YtgdioalhlmnhhaaDoor
