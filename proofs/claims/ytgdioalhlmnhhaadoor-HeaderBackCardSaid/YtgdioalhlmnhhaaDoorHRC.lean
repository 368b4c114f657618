/- Walks and lemmas on the program of this seat, used by its statements; each theorem bears its own conditions. -/
import Derived.Test.YtgdioalhlmnhhaaDoorHRA
import Derived.Test.YtgdioalhlmnhhaaDoorHNM
import Derived.Test.YtgdioalhlmnhhaaDoorHM
import Derived.Handy
import Derived.Deep.CutRange
namespace Go.Proofs.YtgdioalhlmnhhaaDoor
open Go.RowKit
set_option linter.unusedVariables false
set_option linter.unusedSimpArgs false
/-! ### The reference's Print -/
def ndB (l : List (List UInt8)) : Bool := !decide l.Nodup
theorem ndB_snoc (ds : List (List UInt8)) (k : Nat) (h : k < ds.length) : ndB (ds.take (k + 1)) = (ndB (ds.take k) || (ds.take k).contains (ds.getD k [])) := by
  have e : ds.getD k [] = ds[k] := by simp [List.getD, h]
  unfold ndB
  rw [List.take_succ_eq_append_getElem h, e, Bool.eq_iff_iff]
  simp only [Bool.not_eq_true', decide_eq_false_iff_not, Bool.or_eq_true, List.contains_iff_mem, List.nodup_append, List.mem_singleton, List.nodup_cons, List.not_mem_nil, not_false_eq_true, List.nodup_nil, and_true, true_and]
  constructor
  · intro hh
    by_cases h1 : (ds.take k).Nodup
    · right
      by_cases h2 : ds[k] ∈ ds.take k
      · exact h2
      · exact absurd ⟨h1, fun a ha b hb e2 => by subst hb; subst e2; exact h2 ha⟩ hh
    · exact .inl h1
  · rintro (h1 | h1)
    · exact fun hh => h1 hh.1
    · exact fun hh => hh.2 _ h1 _ rfl rfl
theorem contains_snoc (ds : List (List UInt8)) (k : Nat) (h : k < ds.length) (x : List UInt8) : (ds.take (k + 1)).contains x = ((ds.take k).contains x || (x == ds.getD k [])) := by
  have e : ds.getD k [] = ds[k] := by simp [List.getD, h]
  rw [List.take_succ_eq_append_getElem h, e, List.contains_append]
  rw [Bool.eq_iff_iff]; simp [List.contains_cons]
theorem all_take_no1 {p : List UInt8 → Bool} {ns : List (List UInt8)} {k : Nat} (h : k < ns.length) : p (ns.getD k []) = false → ns.all p = false := by
  intro hp
  rw [← Bool.not_eq_true, List.all_eq_true]
  intro ha
  rw [ha _ (mem_getD1 ns k h)] at hp; cases hp
set_option maxRecDepth 100000 in
set_option maxHeartbeats 4000000 in
theorem rprint_any (h : WX.Hr) (v : Value) (w : World) (hd : TextsAt w v h.ds) (hnl : h.nm.length ≤ 4611686018427387904) (hdl : ∀ d ∈ h.ds, d.length ≤ 4611686018427387904) (hz1 : -9223372036854775808 ≤ h.sz) (hz2 : h.sz ≤ 9223372036854775807)
    (r : List UInt8 × Int) (hr : WX.printF h = r) :
    Calls Tryd.prog 29 #[.agg #[S h.nm, v, I h.sz]] w fun e w' => e = .returned (.tuple #[S r.1, I r.2]) ∧ Kept [] w w' := by
  obtain ⟨nm, ds, sz⟩ := h
  simp only at hd hnl hdl hz1 hz2 ⊢
  have HR := Lib.hid hr
  have HD := Lib.hid hdl
  have hnl' : (nm.length : Int) ≤ 4611686018427387904 := by omega
  obtain ⟨p, c, rfl, hl, hcell⟩ := hd
  have hl' : (ds.length : Int) ≤ 9223372036854775807 := by omega
  have HC := Lib.hid hcell
  have K0 : Kept [] w (w.alloc (.cells #[S nm, .slice p ds.length c, I sz] HrT)) := (Kept.refl _ _).alloc _
  have B0 : (w.alloc (.cells #[S nm, .slice p ds.length c, I sz] HrT)).heap[w.heap.size]? = some (.cells #[S nm, .slice p ds.length c, I sz] HrT (0, 0)) := heap_new w _
  have HK0 := Lib.hid (And.intro K0 B0)
  obtain ⟨o, ho⟩ : ∃ o, ok0 nm ds.length sz = o := ⟨_, rfl⟩
  have HO := Lib.hid ho
  obtain ⟨on, hon⟩ : ∃ b, (!o) = b := ⟨_, rfl⟩
  have HON := Lib.hid hon
  clear hr hdl hcell K0 B0 ho hon
  go_enter Tryd.func29, Tryd.ntmps29
  go_upto_region 1 with (fail)
  go_cut [27] from 8 to 26 (fun v wx => v = .bool on ∧ Kept [] (w.alloc (.cells #[S nm, .slice p ds.length c, I sz] HrT)) wx)
  case first =>
    obtain ⟨n0, hn0⟩ : ∃ n, WX.nameB nm = n := ⟨_, rfl⟩
    have HN := Lib.hid hn0
    have HNC := Lib.hid (rname_at nm n0 (w.alloc (.cells #[S nm, .slice p ds.length c, I sz] HrT)) hn0 (by omega))
    clear hn0
    go_wp2_with (fail)
    refine HNC.out.mono ?_
    rintro e w1 ⟨rfl, k1⟩
    have K1 := Lib.hid k1
    obtain ⟨a0, a1, a2⟩ := cells3r (k1.at HK0.out.2 (by simp))
    clear k1
    cases n0 with
    | false =>
      have HX : Hid (o = false) := Lib.hid (by rw [← HO.out]; unfold ok0; rw [HN.out]; rfl)
      go_wp2_with (fail)
      all_goals (go_meet; exact ⟨by rw [← HON.out, HX.out]; rfl, K1.out⟩)
    | true =>
      by_cases z3 : (ds.length : Int) ≤ 8
      · have z3d : decide ((ds.length : Int) > 8) = false := decide_eq_false (by omega)
        by_cases z1 : sz ≥ 1
        · have z1d : decide (sz < 1) = false := decide_eq_false (by omega)
          by_cases z2 : sz ≤ 131072
          · have z2d : decide (sz > 131072) = false := decide_eq_false (by omega)
            have HX : Hid (o = true) := Lib.hid (by rw [← HO.out]; unfold ok0; rw [HN.out, decide_eq_true z1, decide_eq_true z2, decide_eq_true (show ds.length ≤ 8 by omega)]; rfl)
            go_wp2_with (fail)
            all_goals (go_meet; exact ⟨by rw [← HON.out, HX.out]; rfl, K1.out⟩)
          · have z2d : decide (sz > 131072) = true := decide_eq_true (by omega)
            have HX : Hid (o = false) := Lib.hid (by rw [← HO.out]; unfold ok0; rw [HN.out, decide_eq_false z2]; simp)
            go_wp2_with (fail)
            all_goals (go_meet; exact ⟨by rw [← HON.out, HX.out]; rfl, K1.out⟩)
        · have z1d : decide (sz < 1) = true := decide_eq_true (by omega)
          have HX : Hid (o = false) := Lib.hid (by rw [← HO.out]; unfold ok0; rw [HN.out, decide_eq_false (show ¬ 1 ≤ sz by omega)]; simp)
          go_wp2_with (fail)
          all_goals (go_meet; exact ⟨by rw [← HON.out, HX.out]; rfl, K1.out⟩)
      · have z3d : decide ((ds.length : Int) > 8) = true := decide_eq_true (by omega)
        have HX : Hid (o = false) := Lib.hid (by rw [← HO.out]; unfold ok0; rw [HN.out, decide_eq_false (show ¬ ds.length ≤ 8 by omega)]; simp)
        go_wp2_with (fail)
        all_goals (go_meet; exact ⟨by rw [← HON.out, HX.out]; rfl, K1.out⟩)
  case rest =>
    obtain ⟨rfl, hwc⟩ := hcut
    have HB := Lib.hid (And.intro (HK0.out.1.trans' hwc) (hwc.at HK0.out.2 (by simp)))
    obtain ⟨a0, a1, a2⟩ := cells3r HB.out.2
    clear hwc
    cases o with
    | false =>
      obtain rfl : on = true := HON.out.symm
      have HRR : Hid (r = ([], 210)) := Lib.hid (by rw [← HR.out]; unfold WX.printF; rw [if_pos (by rw [ok0_all]; simp only; rw [HO.out]; rfl)])
      go_wp2_with (fail)
      go_returns
      exact ⟨by rw [HRR.out]; rfl, HB.out.1⟩
    | true =>
      obtain rfl : on = false := HON.out.symm
      have ho := HO.out
      unfold ok0 at ho
      simp only [Bool.and_eq_true, decide_eq_true_eq] at ho
      obtain ⟨g1, g2, g3, g4⟩ := ho
      have hn24 : (nm.length : Int) ≤ 24 := by have := name_le g1; omega
      have g4' : (ds.length : Int) ≤ 8 := by omega
      obtain ⟨z, rfl⟩ := Int.eq_ofNat_of_zero_le (show 0 ≤ sz by omega)
      have hz6 := WX.dec_len6 z (by omega)
      obtain ⟨dd, hdd⟩ : ∃ dd, Lib.decDigits z = dd := ⟨_, rfl⟩
      have HNu := Lib.hid (num_ref z)
      rw [hdd] at hz6 HNu
      have hz6' : (dd.length : Int) ≤ 6 := by omega
      have HDD := Lib.hid hdd
      have HZB := Lib.hid g3
      clear g1 g2 g3 hdd hz6
      go_wp2_with (fail)
      go_loopw [4, 5, 6, 7] (fun tv sv iv _ wr => ∃ (i : Nat) (t : List UInt8) (tw : Bool), iv = I i ∧ sv = S t ∧ tv = .bool tw ∧ i ≤ ds.length ∧ tw = ndB (ds.take i) ∧ (ds.take i).all WX.nameB = true ∧ t = WX.nameP ++ nm ++ [10] ++ WX.laidL ((ds.take i).map WX.devLn) ∧ t.length ≤ 30 + 32 * i ∧ Kept [] w wr ∧ wr.heap[w.heap.size]? = some (.cells #[S nm, .slice p ds.length c, I z] HrT (0, 0))) (fun _ _ iv _ _ => ds.length - (intOf iv).toNat)
      case atStart => exact ⟨0, _, false, rfl, rfl, rfl, by omega, rfl, rfl, by simp [WX.laidL, WX.nameP], by simp; omega, HB.out.1, HB.out.2⟩
      case round =>
        clear a0 a1 a2
        obtain ⟨i, t, tw, rfl, rfl, rfl, hk, htw, hall, ht, htl, hkw, hb⟩ := hrel
        have HQ := Lib.hid (And.intro htw (And.intro hall ht))
        have HKW := Lib.hid (And.intro hkw hb)
        obtain ⟨a0, a1, a2⟩ := cells3r hb
        have htl' : (t.length : Int) ≤ 300 := by omega
        clear htw hall ht hkw hb
        by_cases hlt : i < ds.length
        · have hlt' : (i : Int) < ds.length := by omega
          obtain ⟨bb, of, rfl, hc⟩ := HC.out (by intro e; rw [e] at hlt; simp at hlt)
          have c1 := cellOf_kept HKW.out.1 (hc i hlt)
          have HCC := Lib.hid hc
          obtain ⟨d, hd⟩ : ∃ d, ds.getD i [] = d := ⟨_, rfl⟩
          have hdlen : d.length ≤ 4611686018427387904 := by rw [← hd]; exact HD.out _ (mem_getD1 ds i hlt)
          have HTA := Lib.hid (take_all ds i hlt WX.nameB)
          have HND := Lib.hid (ndB_snoc ds i hlt)
          have HLT := Lib.hid (laidL_take ds i hlt)
          obtain ⟨n1, hn1⟩ : ∃ n, WX.nameB d = n := ⟨_, rfl⟩
          have HNC := Lib.hid (rname_at d n1 wr hn1 hdlen)
          have HN1 := Lib.hid hn1
          have HNO := Lib.hid (all_take_no1 (p := WX.nameB) hlt)
          rw [hd] at c1 HTA HND HLT HNO
          clear hc hd hn1
          go_wp2_with (fail)
          refine HNC.out.mono ?_
          rintro e w2 ⟨rfl, k2⟩
          have H2 := Lib.hid (And.intro (HKW.out.1.trans' k2) (k2.at HKW.out.2 (by simp)))
          obtain ⟨e0, e1, e2⟩ := cells3r H2.out.2
          have c2 := cellOf_kept k2 c1
          clear k2 a0 a1 a2 c1
          cases n1 with
          | false =>
            have HRR : Hid (r = ([], 210)) := Lib.hid (by rw [← HR.out]; unfold WX.printF; rw [if_pos (by rw [ok0_all]; simp only; rw [HO.out, HNO.out HN1.out]; rfl)])
            go_wp2_with (fail)
            go_returns
            exact ⟨by rw [HRR.out]; rfl, H2.out.1⟩
          | true =>
            have hd24 : (d.length : Int) ≤ 24 := by have := name_le HN1.out; omega
            go_wp2_with (fail)
            go_loopw [4, 7] (fun tv kv ws => ∃ (k : Nat) (b : Bool), kv = I k ∧ tv = .bool b ∧ k ≤ i ∧ b = (tw || (ds.take k).contains d) ∧ Kept [] w2 ws) (fun _ kv _ => i - (intOf kv).toNat)
            case atStart => exact ⟨0, tw, rfl, rfl, by omega, by simp, Kept.refl _ _⟩
            case round =>
              obtain ⟨k, b, rfl, rfl, hki, hb, hks⟩ := hrel
              have HBB := Lib.hid (And.intro hb hks)
              obtain ⟨f0, f1, f2⟩ := cells3r (hks.at H2.out.2 (by simp))
              have c3 := cellOf_kept hks c2
              clear hb hks e0 e1 e2 c2
              by_cases hkl : k < i
              · have hkl' : (k : Int) < i := by omega
                have hkd : k < ds.length := by omega
                have hkd' : (k : Int) < ds.length := by omega
                have c4 := cellOf_kept HBB.out.2 (cellOf_kept H2.out.1 (HCC.out k hkd))
                have HCS := Lib.hid (contains_snoc ds k hkd d)
                obtain ⟨d2, hd2⟩ : ∃ d, ds.getD k [] = d := ⟨_, rfl⟩
                rw [hd2] at c4 HCS
                clear hd2
                obtain ⟨x, hx⟩ : ∃ x, (d == d2) = x := ⟨_, rfl⟩
                cases b with
                | true =>
                  go_wp2_with (fail)
                  go_quiet (fail)
                  go_wp2_with (fail)
                  go_roundw
                  case rel => exact ⟨k + 1, true, by go_num, rfl, by omega, by rw [HCS.out, ← Bool.or_assoc, ← HBB.out.1]; rfl, HBB.out.2.drewN _⟩
                  case measure => simp [intOf]; omega
                | false =>
                  have HX := Lib.hid hx
                  go_wp2_with (fail)
                  go_quiet (fail)
                  go_wp2_with (fail)
                  go_roundw
                  case rel => exact ⟨k + 1, x, by go_num, rfl, by omega, by rw [HCS.out, ← Bool.or_assoc, ← HBB.out.1, HX.out]; rfl, HBB.out.2.drewN _⟩
                  case measure => simp [intOf]; omega
              · obtain rfl : k = i := by omega
                go_wp2_with (fail)
                go_roundw
                case rel => exact ⟨k + 1, _, b, by go_num, rfl, rfl, by omega, by rw [HND.out, ← HQ.out.1, HBB.out.1], by rw [HTA.out, HQ.out.2.1, HN1.out]; rfl, by rw [HLT.out, HQ.out.2.2]; simp [WX.devP], by simp; omega, H2.out.1.trans' HBB.out.2, HBB.out.2.at H2.out.2 (by simp)⟩
                case measure => simp [intOf]; omega
        · obtain rfl : i = ds.length := by omega
          have hq := HQ.out
          rw [List.take_length] at hq
          have hok : WX.okH ⟨nm, ds, z⟩ = true := by rw [ok0_all]; simp only; rw [HO.out, hq.2.1]; rfl
          cases tw with
          | true =>
            have HRR : Hid (r = ([], 211)) := Lib.hid (by rw [← HR.out]; unfold WX.printF; rw [if_neg (by simp [hok]), if_pos (by have := hq.1; unfold ndB at this; simpa using this.symm)])
            clear hq hok
            go_wp2_with (fail)
            go_returns
            exact ⟨by rw [HRR.out]; rfl, HKW.out.1⟩
          | false =>
            have hnd : ds.Nodup := by have := hq.1; unfold ndB at this; simpa using this.symm
            by_cases hne : ds = []
            · have HRR : Hid (r = ([], 212)) := Lib.hid (by rw [← HR.out]; unfold WX.printF; rw [if_neg (by simp [hok]), if_neg (by simpa using hnd), if_pos hne])
              have hz : ((ds.length : Int) == 0) = true := by rw [hne]; rfl
              clear hq hok hne hnd
              go_wp2_with (fail)
              go_returns
              exact ⟨by rw [HRR.out]; rfl, HKW.out.1⟩
            · have hz : ((ds.length : Int) == 0) = false := by rw [beq_eq_false_iff_ne]; have : ds.length ≠ 0 := by simpa using hne
                                                               omega
              have HRF : Hid (r = (t ++ 115 :: 105 :: 122 :: 101 :: 32 :: (dd ++ [10]), 0)) := Lib.hid (by
                rw [← HR.out, WX.printF_mk hok hnd hne, headT_split, hq.2.2, ← HDD.out]; simp [WX.sizeP])
              have HKP := Lib.hid (HNu.out wr (by have := HZB.out; omega))
              clear hq hok hne hnd
              go_wp2_with (fail)
              refine HKP.out.mono ?_
              rintro e w5 ⟨rfl, k5⟩
              have H5 := Lib.hid (HKW.out.1.trans' k5)
              clear k5
              go_wp2_with (fail)
              go_returns
              exact ⟨by rw [HRF.out]; rfl, H5.out⟩
end Go.Proofs.YtgdioalhlmnhhaaDoor
