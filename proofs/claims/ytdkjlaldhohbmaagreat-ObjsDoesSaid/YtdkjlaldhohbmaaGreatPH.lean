/- Walks and lemmas on the program of this seat, used by its statements; each theorem bears its own conditions. -/
import Derived.Test.YtdkjlaldhohbmaaGreatPG
import Derived.Handy
import Derived.OwnWalk
import Derived.Deep.AppendLies
import Derived.IntWalk
import Derived.Deep.CutRange
import Derived.Deep.RegionHeld3
import Derived.Deep.RegionLaw
namespace Go.Proofs.YtdkjlaldhohbmaaGreat
open Go.RowKit
set_option linter.unusedVariables false
set_option linter.unusedSimpArgs false
set_option maxHeartbeats 8000000
set_option maxRecDepth 100000
/-! ### fixed: the small calls -/
theorem weight_big (w : World) : Calls Tryz.prog 49 #[I 257] w fun e w' => e = .returned (I 0) ∧ w' = w := by
  go_enter Tryz.func49, Tryz.ntmps49
  go_wp2_with (fail)
  go_ret
  exact ⟨rfl, rfl⟩
theorem sformat_small (w : World) (pb fb bb cb n : Nat) (f : Fl) (h : PtAt w pb fb bb cb 1 n f) (h8 : n < 8) :
    Calls Tryz.prog 36 #[Ptr pb] w fun e w' => e = .returned (.tuple #[.pointer none, I 150]) ∧ w' = w := by
  have HS := Lib.hid (size_any w pb fb bb cb 1 n f h)
  obtain ⟨N, hN⟩ : ∃ N : Nat, n * 512 = N := ⟨_, rfl⟩
  rw [hN] at HS
  have hNI : (N : Int) < 4096 := by omega
  clear h h8 hN
  go_enter Tryz.func36, Tryz.ntmps36
  go_wp2_with (fail)
  refine HS.out.mono ?_
  rintro e w1 ⟨rfl, rfl⟩
  go_wp2_with (fail)
  go_ret2
  exact ⟨rfl, rfl⟩
set_option maxHeartbeats 2000000 in
theorem over2_any (w : World) : Calls Tryz.prog 48 #[] w fun e w' => ∃ pb fb bb cb, e = .returned (Ptr pb) ∧ PtAt w' pb fb bb cb 1 2 (flNew 3) ∧ Kept [] w w' := by
  have HN := Lib.hid (fnew_any w 3 (by omega) (by omega))
  have HO := Lib.hid (fun W fb bb cb (h : FlAt W fb bb cb (flNew 3)) => over_any W fb bb cb 2 _ h (by omega) (by simp [flNew]))
  go_enter Tryz.func48, Tryz.ntmps48
  go_wp2_with (fail)
  refine HN.out.mono ?_
  rintro e w2 ⟨fb, bb, cb, rfl, g1, g2, g3, hf, k2⟩
  have H2 := Lib.hid (And.intro hf k2)
  clear g1 g2 g3 hf k2
  go_wp2_with (fail)
  refine (HO.out _ _ _ _ H2.out.1).mono ?_
  rintro e w3 ⟨pb, rfl, g4, hp, k3⟩
  have H3 := Lib.hid (And.intro hp (H2.out.2.trans' k3))
  clear g4 hp k3
  go_wp2_with (fail)
  go_ret
  exact ⟨pb, fb, bb, cb, rfl, H3.out.1, H3.out.2⟩
/-- A string of zeros, made. -/
theorem zeros_made (w : World) (n : Nat) (h : n ≤ 1000) : ∃ W, (Instr.makeSlice 83 (I n) (I n)).run Tryz.prog w = .ok (.slice (some ⟨w.heap.size, 0, none⟩) n n) W ∧ Kept [] w W ∧ W.heap.size = w.heap.size + 1 ∧ ∀ c W', Kept [] W W' → (convert 83 9 (.slice (some ⟨w.heap.size, 0, none⟩) n c)).run Tryz.prog W' = .ok (S (zerosL n)) W' := by
  refine ⟨_, make_bytes w n (by omega), (Kept.refl [] w).alloc _, by rw [World.size_alloc], fun c W' k => ?_⟩
  have hr : Row W' w.heap.size (zerosL n) := k.at (heap_new w (.cells (Lib.byteCells (zerosL n)).toArray 5)) (by simp)
  have := conv_row hr c
  rw [zerosL_len] at this
  exact this
/-! ### fixed -/
theorem chs_one1 {w : World} {b : Nat} {t : TypeId} {k : Int} {l : List UInt8} {d : Bool} (h : w.heap[b]? = some (.cells #[I k, S l, .bool d] t (0, 0))) (c : Nat) : ChsAt w (.slice (some ⟨b, 0, none⟩) 1 c) [⟨k, l, d⟩] := by
  refine ⟨some ⟨b, 0, none⟩, c, b, 0, rfl, fun _ => rfl, fun i hi => ?_⟩
  obtain rfl : i = 0 := by simp at hi; omega
  refine ⟨?_, ?_, ?_⟩ <;> (rw [cell_at h]; rfl)
theorem chs_two {w : World} {b : Nat} {t : TypeId} {k j : Int} {l m : List UInt8} {d e : Bool} (h : w.heap[b]? = some (.cells #[I k, S l, .bool d, I j, S m, .bool e] t (0, 0))) (c : Nat) : ChsAt w (.slice (some ⟨b, 0, none⟩) 2 c) [⟨k, l, d⟩, ⟨j, m, e⟩] := by
  refine ⟨some ⟨b, 0, none⟩, c, b, 0, rfl, fun _ => rfl, fun i hi => ?_⟩
  rcases i with _ | _ | i
  · refine ⟨?_, ?_, ?_⟩ <;> (rw [cell_at h]; rfl)
  · refine ⟨?_, ?_, ?_⟩ <;> (rw [cell_at h]; rfl)
  · simp at hi; omega
theorem slice_own {b o len c q : Nat} (h : (Value.slice (some ⟨b, o, none⟩) len c).ownBlock = some q) : q = b := by
  simpa [Value.ownBlock, eq_comm] using h
section
variable {w0 w : World} {fb sb n : Nat} {V : OM} {d B : Nat}
theorem stand_put1 (h : Stand w0 w fb sb n V d B) (hd : d ≤ 800000000) {Wz : World} (kz : Kept [] w Wz) (k : Int) (l : List UInt8) (dr : Bool) :
    Calls Tryz.prog 12 #[Ptr sb, .slice (some ⟨Wz.heap.size, 0, none⟩) 1 1] (Wz.alloc (.cells #[I k, S l, .bool dr] 59)) fun e w' => e = .returned (I (mayF n V [⟨k, l, dr⟩])) ∧ Stand w0 w' fb sb n (putF n V [⟨k, l, dr⟩]) (d + n) w'.heap.size := by
  have hB := h.top
  have hz := kz.size
  refine stand_put (h.same (kz.alloc _)) hd _ _ (chs_one1 (heap_new Wz _) 1) (fun _ q hq => ?_) (by simp)
  have := slice_own hq
  omega
theorem stand_put2 (h : Stand w0 w fb sb n V d B) (hd : d ≤ 800000000) {Wz : World} (kz : Kept [] w Wz) (k : Int) (l : List UInt8) (dr : Bool) (k' : Int) (l' : List UInt8) (dr' : Bool) :
    Calls Tryz.prog 12 #[Ptr sb, .slice (some ⟨Wz.heap.size, 0, none⟩) 2 2] (Wz.alloc (.cells #[I k, S l, .bool dr, I k', S l', .bool dr'] 59)) fun e w' => e = .returned (I (mayF n V [⟨k, l, dr⟩, ⟨k', l', dr'⟩])) ∧ Stand w0 w' fb sb n (putF n V [⟨k, l, dr⟩, ⟨k', l', dr'⟩]) (d + n) w'.heap.size := by
  have hB := h.top
  have hz := kz.size
  refine stand_put (h.same (kz.alloc _)) hd _ _ (chs_two (heap_new Wz _) 2) (fun _ q hq => ?_) (by simp)
  have := slice_own hq
  omega
end
set_option maxHeartbeats 8000000 in
theorem fixed_any (w : World) : Calls Tryz.prog 14 #[] w fun e w' => e = .returned (.bool true) ∧ Kept [] w w' := by
  have HLA := Lib.hid (laid15_any w 8)
  have hb8 : blkF 8 = 8 := rfl
  rw [hb8] at HLA
  go_enter Tryz.func14, Tryz.ntmps14
  go_wp2_with (fail)
  refine HLA.out.mono ?_
  intro e w2 hla
  obtain ⟨fb, sb, rb, rfl, hs⟩ := laid_stand hla (by omega)
  have H2 := Lib.hid hs
  have HQ := Lib.hid (stand_quota hs)
  have HW := Lib.hid (stand_weight hs)
  rw [p_quota] at HQ
  replace HW : Hid (Calls Tryz.prog 10 #[Ptr sb] w2 fun e w' => e = .returned (I 0) ∧ w' = w2) := HW
  replace HQ : Hid (Calls Tryz.prog 13 #[Ptr sb] w2 fun e w' => e = .returned (I 14) ∧ w' = w2) := HQ
  clear hs hla HLA
  go_wp2_with (fail)
  refine HQ.out.mono ?_
  rintro e w3 ⟨rfl, rfl⟩
  go_wp2_with (fail)
  refine HW.out.mono ?_
  rintro e w4 ⟨rfl, rfl⟩
  clear HQ HW
  obtain ⟨Wz, z1, z2, z3, z4⟩ := zeros_made w4 53 (by omega)
  have z1' : (Instr.makeSlice 83 (I 53) (I 53)).run Tryz.prog w4 = .ok (.slice (some ⟨w4.heap.size, 0, none⟩) 53 53) Wz := z1
  have z5 := z4 53 Wz (Kept.refl _ _)
  obtain ⟨zs, hzs⟩ : ∃ zs, zerosL 53 = zs := ⟨_, rfl⟩
  rw [hzs] at z5
  have HZ := Lib.hid (And.intro z2 (And.intro z3 hzs))
  clear z1 z2 z3 z4 hzs
  have hp1 : Hid (Calls Tryz.prog 12 #[Ptr sb, .slice (some ⟨Wz.heap.size, 0, none⟩) 1 1] (Wz.alloc (.cells #[I 5, S zs, .bool false] 59)) fun e w' => e = .returned (I 0) ∧ Stand w w' fb sb 8 V1 8 w'.heap.size) := Lib.hid (by
    have h := stand_put1 H2.out (by omega) HZ.out.1 5 zs false
    rw [← HZ.out.2.2] at h ⊢
    have e1 : mayF 8 [] [⟨5, zerosL 53, false⟩] = 0 := p_may1
    have e2 : putF 8 [] [⟨5, zerosL 53, false⟩] = V1 := p_put1
    rw [e1, e2] at h
    exact h)
  go_wp2_with (fail)
  refine hp1.out.mono ?_
  rintro e w5 ⟨rfl, hs⟩
  clear H2 hp1 z1' z5 HZ
  have H5 := Lib.hid hs
  have HW := Lib.hid (stand_weight hs)
  rw [p_sum1] at HW
  replace HW : Hid (Calls Tryz.prog 10 #[Ptr sb] w5 fun e w' => e = .returned (I 1) ∧ w' = w5) := HW
  clear hs
  go_wp2_with (fail)
  refine HW.out.mono ?_
  rintro e w6 ⟨rfl, rfl⟩
  clear HW
  obtain ⟨Wy, z1, z2, z3, z4⟩ := zeros_made w6 54 (by omega)
  have z1' : (Instr.makeSlice 83 (I 54) (I 54)).run Tryz.prog w6 = .ok (.slice (some ⟨w6.heap.size, 0, none⟩) 54 54) Wy := z1
  have z5 := z4 54 Wy (Kept.refl _ _)
  obtain ⟨ys, hys⟩ : ∃ ys, zerosL 54 = ys := ⟨_, rfl⟩
  rw [hys] at z5
  have hp2 : Hid (Calls Tryz.prog 12 #[Ptr sb, .slice (some ⟨Wy.heap.size, 0, none⟩) 2 2] (Wy.alloc (.cells #[I 6, S ys, .bool false, I 7, S [], .bool true] 59)) fun e w' => e = .returned (I 0) ∧ Stand w w' fb sb 8 V2 16 w'.heap.size) := Lib.hid (by
    have h := stand_put2 H5.out (by omega) z2 6 ys false 7 [] true
    rw [← hys] at h ⊢
    have e1 : mayF 8 V1 [⟨6, zerosL 54, false⟩, ⟨7, [], true⟩] = 0 := p_may2
    have e2 : putF 8 V1 [⟨6, zerosL 54, false⟩, ⟨7, [], true⟩] = V2 := p_put2
    rw [e1, e2] at h
    exact h)
  clear z1 z2 z3 z4 hys
  go_wp2_with (fail)
  refine hp2.out.mono ?_
  rintro e w7 ⟨rfl, hs⟩
  clear H5 hp2 z1' z5
  have H7 := Lib.hid hs
  clear hs
  obtain ⟨Wx, z1, z2, z3, z4⟩ := zeros_made w7 257 (by omega)
  have z1' : (Instr.makeSlice 83 (I 257) (I 257)).run Tryz.prog w7 = .ok (.slice (some ⟨w7.heap.size, 0, none⟩) 257 257) Wx := z1
  have z5 := z4 257 Wx (Kept.refl _ _)
  obtain ⟨xs, hxs⟩ : ∃ xs, zerosL 257 = xs := ⟨_, rfl⟩
  rw [hxs] at z5
  have hp3 : Hid (Calls Tryz.prog 12 #[Ptr sb, .slice (some ⟨Wx.heap.size, 0, none⟩) 1 1] (Wx.alloc (.cells #[I 8, S xs, .bool false] 59)) fun e w' => e = .returned (I 151) ∧ Stand w w' fb sb 8 V2 24 w'.heap.size) := Lib.hid (by
    have h := stand_put1 H7.out (by omega) z2 8 xs false
    rw [← hxs] at h ⊢
    have e1 : mayF 8 V2 [⟨8, zerosL 257, false⟩] = 151 := p_may3
    have e2 : putF 8 V2 [⟨8, zerosL 257, false⟩] = V2 := p_put3
    rw [e1, e2] at h
    exact h)
  clear z1 z2 z3 z4 hxs
  go_wp2_with (fail)
  refine hp3.out.mono ?_
  rintro e w8 ⟨rfl, hs⟩
  clear H7 hp3 z1' z5
  have H8 := Lib.hid hs
  clear hs
  obtain ⟨Wa, a1, a2, a3, a4⟩ := zeros_made w8.drew 200 (by omega)
  obtain ⟨Wb, b1, b2, b3, b4⟩ := zeros_made Wa 200 (by omega)
  have a1' : (Instr.makeSlice 83 (I 200) (I 200)).run Tryz.prog w8.drew = .ok (.slice (some ⟨w8.heap.size, 0, none⟩) 200 200) Wa := a1
  have b1' : (Instr.makeSlice 83 (I 200) (I 200)).run Tryz.prog Wa = .ok (.slice (some ⟨Wa.heap.size, 0, none⟩) 200 200) Wb := b1
  have c1 : (convert 83 9 (.slice (some ⟨w8.heap.size, 0, none⟩) 200 200)).run Tryz.prog Wa = .ok (S (zerosL 200)) Wa := a4 200 Wa (Kept.refl _ _)
  have c2 : (convert 83 9 (.slice (some ⟨w8.heap.size, 0, none⟩) 200 200)).run Tryz.prog Wb = .ok (S (zerosL 200)) Wb := a4 200 Wb b2
  have c3 : (convert 83 9 (.slice (some ⟨Wa.heap.size, 0, none⟩) 200 200)).run Tryz.prog Wb = .ok (S (zerosL 200)) Wb := b4 200 Wb (Kept.refl _ _)
  obtain ⟨us, hus⟩ : ∃ us, zerosL 200 = us := ⟨_, rfl⟩
  rw [hus] at c1 c2 c3
  have hp4 : Hid (Calls Tryz.prog 12 #[Ptr sb, .slice (some ⟨Wb.heap.size, 0, none⟩) 2 2] (Wb.alloc (.cells #[I 8, S us, .bool false, I 9, S us, .bool false] 59)) fun e w' => e = .returned (I 151) ∧ Stand w w' fb sb 8 V2 32 w'.heap.size) := Lib.hid (by
    have h := stand_put2 H8.out (by omega) (((Kept.refl [] w8).drew.trans' a2).trans' b2) 8 us false 9 us false
    rw [← hus] at h ⊢
    have e1 : mayF 8 V2 [⟨8, zerosL 200, false⟩, ⟨9, zerosL 200, false⟩] = 151 := p_may4
    have e2 : putF 8 V2 [⟨8, zerosL 200, false⟩, ⟨9, zerosL 200, false⟩] = V2 := p_put4
    rw [e1, e2] at h
    exact h)
  clear a1 a2 a3 a4 b1 b2 b3 b4 hus
  go_upto_region 8 with (fail)
  go_cut [8] from 57 to 66 (fun v8 wx => v8 = I 151 ∧ Stand w wx fb sb 8 V2 32 wx.heap.size)
  case first =>
    go_region_with (first
      | (go_at_call 12; (with_reducible refine hp4.out.mono ?_); rintro e w9 ⟨rfl, hs⟩))
    all_goals
      go_wp2
      go_meet
      exact ⟨rfl, hs⟩
  case rest =>
  obtain ⟨rfl, hs⟩ := hcut
  clear H8 hp4 a1' b1' c1 c2 c3
  have H9 := Lib.hid hs
  clear hs
  have hp5 : Hid (Calls Tryz.prog 12 #[Ptr sb, .slice (some ⟨wc.heap.size, 0, none⟩) 2 2] (wc.alloc (.cells #[I 2, S [], .bool false, I 1, S [], .bool false] 59)) fun e w' => e = .returned (I 1) ∧ Stand w w' fb sb 8 V2 40 w'.heap.size) := Lib.hid (by
    have h := stand_put2 H9.out (by omega) (Kept.refl _ _) 2 [] false 1 [] false
    have e1 : mayF 8 V2 [⟨2, [], false⟩, ⟨1, [], false⟩] = 1 := p_may5
    have e2 : putF 8 V2 [⟨2, [], false⟩, ⟨1, [], false⟩] = V2 := p_put5
    rw [e1, e2] at h
    exact h)
  go_wp2_with (fail)
  refine hp5.out.mono ?_
  rintro e w10 ⟨rfl, hs⟩
  clear H9 hp5
  have HG := Lib.hid (stand_get hs 5 ⟨by omega, by omega⟩)
  obtain ⟨gs, hgs⟩ : ∃ gs, getF V2 5 = gs := ⟨_, rfl⟩
  have hgl : gs.length = 53 := by rw [← hgs]; exact p_get
  rw [hgs, p_is] at HG
  have H10 := Lib.hid hs
  clear hs hgs
  go_wp2_with (fail)
  refine HG.out.mono ?_
  rintro e w11 ⟨rfl, k11⟩
  have hs := H10.out.same k11
  clear H10 HG k11
  have HKY := Lib.hid (stand_keys hs 1 9)
  rw [p_keys] at HKY
  have H11 := Lib.hid hs
  clear hs
  go_wp2_with (fail)
  refine HKY.out.mono ?_
  rintro e w12 ⟨kv, rfl, own, k12⟩
  have hs := H11.out.same k12
  obtain ⟨g, c, rfl, hbg, hcc⟩ := row_cells1 own (by decide)
  have d0 := hcc 0 (by decide)
  have d1 := hcc 1 (by decide)
  have H12 := Lib.hid hs
  have D := Lib.hid (And.intro d0 d1)
  clear hs own k12 H11 HKY hcc d0 d1
  go_wp2_with (fail)
  refine (over2_any _).mono ?_
  rintro e w13 ⟨pb, fb2, bb2, cb2, rfl, hpt, k13⟩
  have HFS := Lib.hid (sformat_small w13 pb fb2 bb2 cb2 2 _ hpt (by omega))
  have H13 := Lib.hid (H12.out.same k13)
  have d0 : w13.cell? ⟨g, 0, none⟩ = some (I 5) := k13.cellOf D.out.1
  have d1 : w13.cell? ⟨g, 1, none⟩ = some (I 6) := k13.cellOf D.out.2
  clear H12 D hpt k13
  go_wp2_with (fail)
  refine HFS.out.mono ?_
  rintro e w14 ⟨rfl, rfl⟩
  have HW := Lib.hid (stand_weight H13.out)
  rw [p_sum2] at HW
  replace HW : Hid (Calls Tryz.prog 10 #[Ptr sb] w14 fun e w' => e = .returned (I 3) ∧ w' = w14) := HW
  clear HFS
  go_wp2_with (fail)
  refine HW.out.mono ?_
  rintro e w15 ⟨rfl, rfl⟩
  clear HW
  go_wp2_with (fail)
  refine (weight_big _).mono ?_
  rintro e w16 ⟨rfl, rfl⟩
  go_wp2_with (fail)
  go_ret
  exact ⟨rfl, H13.out.old⟩
end Go.Proofs.YtdkjlaldhohbmaaGreat
