/- Walks and lemmas on the program of this seat, used by its statements; each theorem bears its own conditions. -/
import Derived.Test.YtgdioalhlmnhhaaDoorHRA
import Derived.Test.YtgdioalhlmnhhaaDoorHNM
import Derived.Test.YtgdioalhlmnhhaaDoorHM
import Derived.Handy
import Derived.Deep.CutRange
import Derived.Maps.Own
import Derived.Maps.OwnSet
namespace Go.Proofs.YtgdioalhlmnhhaaDoor
open Go.RowKit
set_option linter.unusedVariables false
set_option linter.unusedSimpArgs false
set_option maxRecDepth 100000 in
set_option maxHeartbeats 4000000 in
theorem print_any (h : WX.Hr) (v : Value) (w : World) (hd : TextsAt w v h.ds) (hnl : h.nm.length ≤ 4611686018427387904) (hdl : ∀ d ∈ h.ds, d.length ≤ 4611686018427387904) (hz1 : -9223372036854775808 ≤ h.sz) (hz2 : h.sz ≤ 9223372036854775807)
    (hT : Tabs w) (hP : PT w) (r : List UInt8 × Int) (hr : WX.printF h = r) :
    Calls Tryd.prog 28 #[.agg #[S h.nm, v, I h.sz]] w fun e w' => e = .returned (.tuple #[S r.1, I r.2]) ∧ Kept [] w w' := by
  obtain ⟨nm, ds, sz⟩ := h
  simp only at hd hnl hdl hz1 hz2 ⊢
  have HR := Lib.hid hr
  have HT := Lib.hid (And.intro hT hP)
  have HD := Lib.hid hdl
  have hnl' : (nm.length : Int) ≤ 4611686018427387904 := by omega
  obtain ⟨p, c, rfl, hl, hcell⟩ := hd
  have hl' : (ds.length : Int) ≤ 9223372036854775807 := by omega
  have HC := Lib.hid hcell
  have K0 : Kept [] w (w.alloc (.cells #[S nm, .slice p ds.length c, I sz] HrT)) := (Kept.refl _ _).alloc _
  have B0 : (w.alloc (.cells #[S nm, .slice p ds.length c, I sz] HrT)).heap[w.heap.size]? = some (.cells #[S nm, .slice p ds.length c, I sz] HrT (0, 0)) := heap_new w _
  have HK0 := Lib.hid (And.intro K0 B0)
  obtain ⟨o, ho⟩ : ∃ o, ok0 nm ds.length sz = o := ⟨_, rfl⟩
  have HO := Lib.hid ho
  have hmm := @run_makeMap Tryd.prog
  clear hr hT hP hdl hcell K0 B0 ho
  go_enter Tryd.func28, Tryd.ntmps28
  go_upto_region 1 with (fail)
  go_cut [4] from 13 to 31 (fun v wx => v = .bool o ∧ Kept [] (w.alloc (.cells #[S nm, .slice p ds.length c, I sz] HrT)) wx)
  case first =>
    obtain ⟨n0, hn0⟩ : ∃ n, WX.nameB nm = n := ⟨_, rfl⟩
    have HN := Lib.hid hn0
    have HNC := Lib.hid (name_at nm n0 _ hn0 (by omega) (HT.out.1.kept HK0.out.1))
    clear hn0
    go_wp2_with (fail)
    refine HNC.out.mono ?_
    rintro e w1 ⟨rfl, k1⟩
    have K1 := Lib.hid k1
    obtain ⟨a0, a1, a2⟩ := cells3r (k1.at HK0.out.2 (by simp))
    clear k1
    cases n0 with
    | false =>
      have HX : Hid (o = false) := Lib.hid (by rw [← HO.out]; unfold ok0; rw [HN.out]; rfl)
      go_wp2_with (fail)
      all_goals (go_meet; exact ⟨by rw [HX.out], K1.out⟩)
    | true =>
      by_cases z1 : sz ≥ 1
      · by_cases z2 : sz ≤ 131072
        · by_cases z3 : (ds.length : Int) ≤ 8
          · have HX : Hid (o = true) := Lib.hid (by rw [← HO.out]; unfold ok0; rw [HN.out, decide_eq_true z1, decide_eq_true z2, decide_eq_true (show ds.length ≤ 8 by omega)]; rfl)
            go_wp2_with (fail)
            all_goals (go_meet; exact ⟨by rw [HX.out], K1.out⟩)
          · have z3d := decide_eq_false z3
            have HX : Hid (o = false) := Lib.hid (by rw [← HO.out]; unfold ok0; rw [HN.out, decide_eq_false (show ¬ ds.length ≤ 8 by omega)]; simp)
            go_wp2_with (fail)
            all_goals (go_meet; exact ⟨by rw [HX.out], K1.out⟩)
        · have HX : Hid (o = false) := Lib.hid (by rw [← HO.out]; unfold ok0; rw [HN.out, decide_eq_false z2]; simp)
          go_wp2_with (fail)
          all_goals (go_meet; exact ⟨by rw [HX.out], K1.out⟩)
      · have HX : Hid (o = false) := Lib.hid (by rw [← HO.out]; unfold ok0; rw [HN.out, decide_eq_false (show ¬ 1 ≤ sz by omega)]; simp)
        go_wp2_with (fail)
        all_goals (go_meet; exact ⟨by rw [HX.out], K1.out⟩)
  case rest =>
    obtain ⟨rfl, hwc⟩ := hcut
    rename World => W1
    have HB := Lib.hid (And.intro (HK0.out.1.trans' hwc) (hwc.at HK0.out.2 (by simp)))
    obtain ⟨a0, a1, a2⟩ := cells3r HB.out.2
    clear hwc
    go_wp2_with (fail)
    go_loopw [4, 35] (fun b i wr => ∃ (k : Nat) (q : Bool), i = I k ∧ b = .bool q ∧ k ≤ ds.length ∧ q = (o && (ds.take k).all WX.nameB) ∧ Kept [] w wr ∧ wr.heap[w.heap.size]? = some (.cells #[S nm, .slice p ds.length c, I sz] HrT (0, 0))) (fun _ i _ => ds.length - (intOf i).toNat)
    case atStart => exact ⟨0, o, rfl, rfl, by omega, by simp, HB.out.1, HB.out.2⟩
    case round =>
      clear a0 a1 a2
      obtain ⟨k, q, rfl, rfl, hk, hq, hkw, hb⟩ := hrel
      have HQ := Lib.hid hq
      have HKW := Lib.hid (And.intro hkw hb)
      clear hq hkw hb
      by_cases hlt : k < ds.length
      · have hlt' : (k : Int) < ds.length := by omega
        obtain ⟨bb, of, rfl, hc⟩ := HC.out (by intro e; rw [e] at hlt; simp at hlt)
        have c1 := cellOf_kept HKW.out.1 (hc k hlt)
        obtain ⟨d, hd⟩ : ∃ d, ds.getD k [] = d := ⟨_, rfl⟩
        have hdlen : d.length ≤ 4611686018427387904 := by rw [← hd]; exact HD.out _ (mem_getD1 ds k hlt)
        have HTA := Lib.hid (take_all ds k hlt WX.nameB)
        rw [hd] at c1 HTA
        clear hc hd
        cases q with
        | false =>
          go_wp2_with (fail)
          go_roundw
          case rel => exact ⟨k + 1, false, by go_num, rfl, by omega, by rw [HTA.out, ← Bool.and_assoc, ← HQ.out]; rfl, HKW.out.1, HKW.out.2⟩
          case measure => simp [intOf]; omega
        | true =>
          obtain ⟨n1, hn1⟩ : ∃ n, WX.nameB d = n := ⟨_, rfl⟩
          have HNC := Lib.hid (name_at d n1 wr hn1 hdlen (HT.out.1.kept HKW.out.1))
          have HN1 := Lib.hid hn1
          clear hn1
          go_wp2_with (fail)
          refine HNC.out.mono ?_
          rintro e w2 ⟨rfl, k2⟩
          have H2 := Lib.hid (And.intro (HKW.out.1.trans' k2) (k2.at HKW.out.2 (by simp)))
          clear k2
          go_wp2_with (fail)
          go_roundw
          case rel => exact ⟨k + 1, n1, by go_num, rfl, by omega, by rw [HTA.out, ← Bool.and_assoc, ← HQ.out, HN1.out]; rfl, H2.out.1, H2.out.2⟩
          case measure => simp [intOf]; omega
      · have hex : ¬ (k : Int) < ds.length := by omega
        obtain ⟨a0, a1, a2⟩ := cells3r HKW.out.2
        obtain rfl : k = ds.length := by omega
        have HQ2 : Hid (q = (o && ds.all WX.nameB)) := Lib.hid (by have := HQ.out; rwa [List.take_length] at this)
        have HM : Hid (Kept [] w (wr.alloc (.map #[] 0)) ∧ (wr.alloc (.map #[] 0)).heap[w.heap.size]? = some (.cells #[S nm, .slice p ds.length c, I sz] HrT (0, 0)) ∧ w.heap.size ≤ wr.heap.size) :=
          Lib.hid ⟨HKW.out.1.alloc _, ((Kept.refl [] wr).alloc _).at HKW.out.2 (by simp), HKW.out.1.size⟩
        obtain ⟨m0, m1, m2⟩ := cells3r HM.out.2.1
        go_wp2_with (fail)
        go_loopw [49] (fun i ws => ∃ k : Nat, i = I k ∧ k ≤ ds.length ∧ ws.ownsMap Tryd.prog 9 (plainElem Tryd.prog 4) wr.heap.size k (seenD (ds.take k)) ∧ Kept [] w ws ∧ ws.heap[w.heap.size]? = some (.cells #[S nm, .slice p ds.length c, I sz] HrT (0, 0)) ∧ wr.heap.size < ws.heap.size) (fun i _ => ds.length - (intOf i).toNat)
        case atStart => exact ⟨0, rfl, by omega, World.ownsMap_made _ _ _ _, HM.out.1, HM.out.2.1, by simp⟩
        case round =>
          clear a0 a1 a2 m0 m1 m2
          obtain ⟨k, rfl, hk, hown, hkw, hb, hsz⟩ := hrel
          rename World => ws
          have HW := Lib.hid (And.intro hkw (And.intro hb hsz))
          have HOWN := Lib.hid hown
          clear hkw hb hown
          by_cases hlt : k < ds.length
          · have hlt' : (k : Int) < ds.length := by omega
            obtain ⟨bb, of, rfl, hc⟩ := HC.out (by intro e; rw [e] at hlt; simp at hlt)
            have c1 := cellOf_kept HW.out.1 (hc k hlt)
            obtain ⟨d, hd⟩ : ∃ d, ds.getD k [] = d := ⟨_, rfl⟩
            have hdlen : d.length ≤ 4611686018427387904 := by rw [← hd]; exact HD.out _ (mem_getD1 ds k hlt)
            have HSN := Lib.hid (seen_snoc ds k hlt)
            rw [hd] at c1 HSN
            clear hc hd
            go_wp2_with (at_mapUpdate; refine wpList_mapUpdate_own _ rfl _ _ _ 88 rfl 9 4 strKey Tryd.underlying88 (plainElem (H := Unit) Tryd.prog 4) wr.heap.size k _ rfl HOWN.out (by unfold maxLen; omega) _ _ _ rfl rfl (key_S d hdlen) _ [] (plainElem_bool Tryd.underlying4 true) ?_; intro w3 hown1 hgrow1; have HG := Lib.hid (And.intro hown1 hgrow1); clear hown1 hgrow1)
            go_roundw
            case rel => exact ⟨k + 1, by go_num, by omega, by rw [HSN.out]; exact HG.out.1, HW.out.1.grown HG.out.2 (fun x hx => by cases hx; exact HM.out.2.2), (HG.out.2.block _ (lt_of_block HW.out.2.1) (fun e => by have h1 := Option.some.inj e; have := lt_of_block HKW.out.2; omega)).trans HW.out.2.1, Nat.lt_of_lt_of_le HW.out.2.2 HG.out.2.size⟩
            case measure => simp [intOf]; omega
          · have hex2 : ¬ (k : Int) < ds.length := by omega
            obtain rfl : k = ds.length := by omega
            obtain ⟨a0, a1, a2⟩ := cells3r HW.out.2.1
            have HOW : Hid (ws.ownsMap Tryd.prog 9 (plainElem Tryd.prog 4) wr.heap.size ds.length (seenD ds)) := Lib.hid (by have := HOWN.out; rwa [List.take_length] at this)
            clear hsz
            obtain ⟨D, hD⟩ : ∃ D, seenD ds = D := ⟨_, rfl⟩
            have hss := seen_size ds
            have hs0 := seen_zero ds
            rw [hD] at HOW hss hs0
            obtain ⟨m, hm⟩ : ∃ m, Maps.size D = m := ⟨_, rfl⟩
            rw [hm] at hss hs0
            have HSM := Lib.hid (And.intro hss hs0)
            have HMM := Lib.hid hm
            have hmi : (m : Int) ≤ 9223372036854775807 := by omega
            clear hD hm hss hs0
            cases q with
            | false =>
              have HRR : Hid (r = ([], 210)) := Lib.hid (by rw [← HR.out]; unfold WX.printF; rw [if_pos (by rw [ok0_all]; simp only; rw [HO.out, ← HQ2.out])])
              go_wp2_with (fail)
              go_returns
              exact ⟨by rw [HRR.out]; rfl, HW.out.1⟩
            | true =>
              have hok : WX.okH ⟨nm, ds, sz⟩ = true := by rw [ok0_all]; simp only; rw [HO.out, ← HQ2.out]
              by_cases hnd : ds.Nodup
              · obtain rfl : m = ds.length := HSM.out.1.2.2 hnd
                by_cases hne : ds = []
                · have HRR : Hid (r = ([], 212)) := Lib.hid (by rw [← HR.out]; unfold WX.printF; rw [if_neg (by simp [hok]), if_neg (by simpa using hnd), if_pos hne])
                  have hz : ((ds.length : Int) == 0) = true := by rw [hne]; rfl
                  clear hne hnd hok
                  go_wp2_with (at_len; refine wpList_len_own _ rfl _ 88 rfl 9 4 Tryd.underlying88 _ wr.heap.size ds.length D rfl HOW.out ?_; rw [HMM.out])
                  go_returns
                  exact ⟨by rw [HRR.out]; rfl, HW.out.1⟩
                · have hz : ((ds.length : Int) == 0) = false := by rw [beq_eq_false_iff_ne]; have : ds.length ≠ 0 := by simpa using hne
                                                                   omega
                  have HRR : Hid (r = (WX.headT ⟨nm, ds, sz⟩, 0)) := Lib.hid (by rw [← HR.out]; exact WX.printF_mk hok hnd hne)
                  obtain ⟨g1, g2, g3, g4, g5⟩ := WX.okH_parts hok
                  simp only at g1 g2 g3 g4 g5
                  have hn24 := name_le g1
                  have HG5 := Lib.hid (fun d hd => name_le (g5 d hd))
                  obtain ⟨z, rfl⟩ := Int.eq_ofNat_of_zero_le (show 0 ≤ sz by omega)
                  have hz6 := WX.dec_len6 z (by omega)
                  have HIT := Lib.hid (itoa_any z ws (by omega) (.inr (HT.out.2.kept HW.out.1)))
                  obtain ⟨dd, hdd⟩ : ∃ dd, Lib.decDigits z = dd := ⟨_, rfl⟩
                  have HRT : Hid (r = ((WX.nameP ++ nm ++ [10]) ++ WX.laidL (ds.map WX.devLn) ++ (WX.sizeP ++ dd ++ [10]), 0)) := Lib.hid (by rw [HRR.out, headT_split, ← hdd]; rfl)
                  rw [hdd] at HIT hz6
                  have hz6' : (dd.length : Int) ≤ 6 := by omega
                  have hn24' : (nm.length : Int) ≤ 24 := by omega
                  have g4' : (ds.length : Int) ≤ 8 := by omega
                  clear hne hnd hok g1 g2 g3 g5 hdd hz6
                  go_wp2_with (at_len; refine wpList_len_own _ rfl _ 88 rfl 9 4 Tryd.underlying88 _ wr.heap.size ds.length D rfl HOW.out ?_; rw [HMM.out])
                  go_loop [10, 77] (fun sv iv => ∃ (k : Nat) (t : List UInt8), iv = I k ∧ sv = S t ∧ k ≤ ds.length ∧ t = WX.nameP ++ nm ++ [10] ++ WX.laidL ((ds.take k).map WX.devLn) ∧ t.length ≤ 30 + 32 * k) (fun _ iv => ds.length - (intOf iv).toNat)
                  case atStart => exact ⟨0, _, rfl, rfl, by omega, by simp [WX.laidL, WX.nameP], by simp; omega⟩
                  case round =>
                    clear a0 a1 a2
                    obtain ⟨k, t, rfl, rfl, hk, ht, htl⟩ := hrel
                    have HTT := Lib.hid ht
                    clear ht
                    have htl' : (t.length : Int) ≤ 300 := by omega
                    by_cases hlt : k < ds.length
                    · have hlt' : (k : Int) < ds.length := by omega
                      obtain ⟨bb, of, rfl, hc⟩ := HC.out (by intro e; rw [e] at hlt; simp at hlt)
                      have c1 := cellOf_kept HW.out.1 (hc k hlt)
                      have HLT := Lib.hid (laidL_take ds k hlt)
                      have hdl := HG5.out _ (mem_getD1 ds k hlt)
                      obtain ⟨d, hd⟩ : ∃ d, ds.getD k [] = d := ⟨_, rfl⟩
                      rw [hd] at c1 HLT hdl
                      have hdl' : (d.length : Int) ≤ 24 := by omega
                      clear hc hd
                      go_wp2_with (fail)
                      go_round
                      case rel => exact ⟨k + 1, _, by go_num, rfl, by omega, by rw [HLT.out, HTT.out]; simp [WX.devP], by simp; omega⟩
                      case measure => simp [intOf]; omega
                    · obtain rfl : k = ds.length := by omega
                      obtain ⟨a0, a1, a2⟩ := cells3r HW.out.2.1
                      have HRF : Hid (r = (t ++ 115 :: 105 :: 122 :: 101 :: 32 :: (dd ++ [10]), 0)) := Lib.hid (by rw [HRT.out, HTT.out, List.take_length]; simp [WX.sizeP])
                      go_wp2_with (fail)
                      refine HIT.out.mono ?_
                      rintro e w5 ⟨rfl, k5⟩
                      have H5 := Lib.hid (HW.out.1.trans' k5)
                      clear k5
                      go_wp2_with (fail)
                      go_returns
                      exact ⟨by rw [HRF.out]; rfl, H5.out⟩
              · have hml : (m : Int) < ds.length := by
                  have h1 := HSM.out.1.1
                  have h2 : m ≠ ds.length := fun e => hnd (HSM.out.1.2.1 e)
                  omega
                have HRR : Hid (r = ([], 211)) := Lib.hid (by rw [← HR.out]; unfold WX.printF; rw [if_neg (by simp [hok]), if_pos hnd])
                clear hnd hok
                go_wp2_with (at_len; refine wpList_len_own _ rfl _ 88 rfl 9 4 Tryd.underlying88 _ wr.heap.size ds.length D rfl HOW.out ?_; rw [HMM.out])
                go_returns
                exact ⟨by rw [HRR.out]; rfl, HW.out.1⟩
end Go.Proofs.YtgdioalhlmnhhaaDoor
