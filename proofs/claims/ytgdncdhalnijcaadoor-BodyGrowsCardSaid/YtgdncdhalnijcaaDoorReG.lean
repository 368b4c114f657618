/- Walks and lemmas on the program of this seat, used by its statements; each theorem bears its own conditions. -/
import Derived.Test.YtgdncdhalnijcaaDoorReF
import Derived.Deep.CutRange
namespace Go.Proofs.YtgdncdhalnijcaaDoor
open Go.RowKit
set_option linter.unusedVariables false
set_option linter.unusedSimpArgs false
namespace BD
set_option maxRecDepth 100000 in
set_option maxHeartbeats 16000000 in
theorem grows_any (hS : SmallSays) (st : Int) (nv vv cv : Value) (names values : List (List UInt8)) (s : List UInt8) (zs : List Int) (w : World) (hn : StrsAt w nv names) (hv : StrsAt w vv values) (hc : IntsAt w cv zs) (hT : Tabs w) (hvs : ∀ s ∈ values, s.length ≤ 9223372036854775807)
    (hs64 : (s.length : Int) ≤ 9223372036854775807) :
    Calls Tryd.prog 3 #[.agg #[I st, nv, vv], S s, cv] w (LawPost w) := by
  have HI := Lib.hid (And.intro hn (And.intro hv (And.intro hc (And.intro hT hvs))))
  obtain ⟨zp, zcap, rfl, hzl, hzz, hzc⟩ := hc
  have HZ := Lib.hid (And.intro hzz hzc)
  have hzl' : (zs.length : Int) ≤ 9223372036854775807 := by omega
  clear hn hv hT hzz hzc hzl hvs
  have hA : Kept [] w (w.alloc (.cells #[I st, nv, vv] 24)) := (Kept.refl _ _).alloc _
  have HA := Lib.hid hA
  clear hA
  by_cases hlen : (s.length : Int) > 2000
  · go_enter Tryd.func3, Tryd.ntmps3
    go_wp2_with (fail)
    refine (fixed_any _ (HI.out.2.2.2.1.kept HA.out)).mono ?_
    rintro e w3 ⟨rfl, k3⟩
    go_wp2_with (fail)
    go_ret
    exact ⟨rfl, HA.out.trans' k3⟩
  have hlen' : (s.length : Int) ≤ 2000 := by omega
  clear hlen
  rcases kind_new st names values with ⟨k, hnew, hk0, hkf⟩ | ⟨kd, sz, R0, hnew, hkf, hkd⟩
  · have HN := Lib.hid (And.intro hnew hkf)
    have hkb : (k != 0) = true := by simpa using hk0
    clear hnew hkf hk0
    go_enter Tryd.func3, Tryd.ntmps3
    go_wp2_with (fail)
    refine (new_no st nv vv names values _ (HI.out.1.kept HA.out) (HI.out.2.1.kept HA.out) (HI.out.2.2.2.1.kept HA.out) k HN.out.1).mono ?_
    rintro e w1 ⟨rfl, k1⟩
    obtain ⟨cc0, cc1, cc2⟩ := cells3' (k1.at (heap_new w _) (by simp))
    have K1 := Lib.hid (HA.out.trans' k1)
    clear k1
    go_wp2_with (fail)
    have hkk := kind_any hS st nv vv names values w1 (HI.out.1.kept K1.out) (HI.out.2.1.kept K1.out) HI.out.2.2.2.2
    rw [HN.out.2] at hkk
    refine hkk.mono ?_
    rintro e w2 ⟨rfl, k2⟩
    have K2 := Lib.hid (K1.out.trans' k2)
    clear k2 hkk cc0 cc1 cc2
    go_wp2_with (fail)
    refine (fixed_any _ (HI.out.2.2.2.1.kept K2.out)).mono ?_
    rintro e w3 ⟨rfl, k3⟩
    go_wp2_with (fail)
    go_ret
    exact ⟨rfl, K2.out.trans' k3⟩
  have hinv : R0.Inv ∧ (0 ≤ R0.state ∧ R0.state ≤ 11) := by
    rcases newF_cases st names values with ⟨k, h1, _⟩ | ⟨R, h1, h2, h3, _⟩
    · rw [h1] at hnew; cases hnew
    · rw [h1] at hnew
      have : R = R0 := by injection hnew with h _; injection h
      subst this; exact ⟨h2, h3⟩
  have HN := Lib.hid hnew
  have HKF := Lib.hid hkf
  have HKD := Lib.hid hkd
  obtain ⟨q1, q2, q3, q4, _, _⟩ := kind_start hkd
  have HO := Lib.hid (And.intro q1 (And.intro q2 (And.intro q3 (And.intro q4 hinv))))
  clear hnew hkf hkd q1 q2 q3 q4 hinv
  go_enter Tryd.func3, Tryd.ntmps3
  go_wp2_with (fail)
  refine (new_yes st nv vv names values _ (HI.out.1.kept HA.out) (HI.out.2.1.kept HA.out) (HI.out.2.2.2.1.kept HA.out) R0 HN.out).mono ?_
  rintro e w1 ⟨b2, hb2, rfl, h1, k1⟩
  obtain ⟨cc0, cc1, cc2⟩ := cells3' (k1.at (heap_new w _) (by simp))
  have hbz : (w.alloc (.cells #[I st, nv, vv] 24)).heap.size ≤ b2 := hb2
  have H1 := Lib.hid (And.intro h1 k1)
  have HBZ := Lib.hid hbz
  clear hb2 h1 k1 hbz
  go_wp2_with (fail)
  have hkk := kind_any hS st nv vv names values w1 (HI.out.1.kept (HA.out.trans' H1.out.2)) (HI.out.2.1.kept (HA.out.trans' H1.out.2)) HI.out.2.2.2.2
  rw [HKF.out] at hkk
  refine hkk.mono ?_
  rintro e w2 ⟨rfl, k2⟩
  have H2 := Lib.hid (And.intro (H1.out.1.kept k2 (by simp)) (H1.out.2.trans' k2))
  clear k2 hkk cc0 cc1 cc2 H1
  go_wp2_with (fail)
  go_loopw [12, 13, 14] (fun v t i wr => ∃ (n at' : Nat) (out : List UInt8) (r : Rd), v = I at' ∧ t = S out ∧ i = I n ∧ n ≤ 300 ∧ at' ≤ s.length ∧ RdAt wr b2 r ∧ Kept [] (w.alloc (.cells #[I st, nv, vv] 24)) wr ∧ feeds R0 (s.take at') = (r, out, 0)) (fun _ _ i _ => 300 - (intOf i).toNat)
  case atStart => exact ⟨0, 0, [], R0, rfl, rfl, rfl, by omega, by omega, H2.out.1, H2.out.2, by rw [List.take_zero, feeds_nil]⟩
  case round =>
    obtain ⟨n, at', out, r, rfl, rfl, rfl, hn, hat, hr, hk, hf⟩ := hrel
    have hbz := HBZ.out
    have hre : r.e = 0 := by rw [(feeds_e hf).1]; exact HO.out.2.1
    have hiv := inv_feeds (s.take at') HO.out.2.2.2.2.1 HO.out.2.2.2.2.2 (by rw [hf])
    rw [hf] at hiv
    have hrl : r.rest.length ≤ 2000 := by have := (rest_drop hf HO.out.1).1; simp at this; omega
    have HR := Lib.hid (And.intro hr (And.intro hk (And.intro hf (And.intro hre (And.intro hiv hrl)))))
    clear hr hk hf hre hiv hrl
    have hstop : (¬ (at' : Int) < s.length) ∨ ((at' : Int) < s.length ∧ ¬ (n : Int) < 300) ∨ ((at' : Int) < s.length ∧ (n : Int) < 300) := by omega
    rcases hstop with h1 | ⟨h1, h2⟩ | ⟨h1, h2⟩
    · go_wp2_with (fail)
      refine (fixed_any _ (HI.out.2.2.2.1.kept (HA.out.trans' HR.out.2.1))).mono ?_
      rintro e w5 ⟨rfl, k5⟩
      go_wp2_with (fail)
      go_ret
      exact ⟨rfl, (HA.out.trans' HR.out.2.1).trans' k5⟩
    · go_wp2_with (fail)
      refine (fixed_any _ (HI.out.2.2.2.1.kept (HA.out.trans' HR.out.2.1))).mono ?_
      rintro e w5 ⟨rfl, k5⟩
      go_wp2_with (fail)
      go_ret
      exact ⟨rfl, (HA.out.trans' HR.out.2.1).trans' k5⟩
    · go_upto_if 73 with (fail)
      go_cut [15] from 70 to 78 (fun v wx => ∃ n1 : Int, v = I n1 ∧ 0 ≤ n1 ∧ n1 ≤ 63 ∧ wx = wr)
      case first =>
        by_cases hzn : (n : Int) < zs.length
        · obtain ⟨zb, zo, rfl, hcell⟩ := HZ.out.2 (by intro h; rw [h] at hzn; simp at hzn; omega)
          have hz1 := hcell n (by omega)
          have hz2 := (HA.out.trans' HR.out.2.1).cell (World.block_lt_of_cell? w _ hz1) (by simp)
          rw [hz1] at hz2
          obtain ⟨hzlo, hzhi⟩ := HZ.out.1 (zs[n]'(by omega)) (List.getElem_mem _)
          generalize zs[n]'(by omega) = z at *
          have hz3 := World.block_lt_of_cell? w _ hz1
          clear hcell hz1
          go_wp2_with (fail)
          all_goals (go_meet; exact ⟨z % 64, rfl, by omega, by omega, rfl⟩)
        · go_wp2_with (fail)
          all_goals (go_meet; exact ⟨1, rfl, by omega, by omega, rfl⟩)
      case rest =>
        obtain ⟨n1, rfl, hn10, hn163, hwc⟩ := hcut
        replace hwc := hwc.symm
        subst hwc
        obtain ⟨m, hm, hm2⟩ : ∃ m : Nat, min n1 ((s.length : Int) - at') = (m : Int) ∧ at' + m ≤ s.length := ⟨(min n1 ((s.length : Int) - at')).toNat, by omega, by omega⟩
        have hm2' : (at' : Int) + m ≤ s.length := by omega
        obtain ⟨a2, ha2, ha2'⟩ : ∃ a2 : Nat, (at' : Int) + m = (a2 : Int) ∧ at' + m = a2 := ⟨at' + m, by omega, rfl⟩
        have HA2 := Lib.hid ha2'
        clear ha2'
        have hat2 : at' ≤ a2 := by omega
        have ha2s : (a2 : Int) ≤ s.length := by omega
        have hcat : s.take (a2) = s.take at' ++ (s.take (a2)).drop at' := by
          have h1 : (s.take (a2)).take at' = s.take at' := by rw [List.take_take]; congr 1; omega
          rw [← h1, List.take_append_drop]
        have hml : ((s.take (a2)).drop at').length = m := by have := HA2.out; simp; omega
        have htl : (s.take (a2)).length = a2 := by simp; omega
        obtain ⟨l, hl⟩ : ∃ l, (s.take (a2)).drop at' = l := ⟨_, rfl⟩
        rw [hl] at hcat hml
        obtain ⟨r2, o2, k2, hw2⟩ : ∃ r2 o2 k2, feeds r l = (r2, o2, k2) := ⟨_, _, _, rfl⟩
        have HC := Lib.hid (And.intro hcat (And.intro hml (And.intro htl hw2)))
        clear hcat hml htl hw2
        go_wp2_with (fail)
        refine (clone_any b2 r wr HR.out.1).mono ?_
        rintro e w3 ⟨rfl, rfl⟩
        have hkc : Kept [] wr (wr.alloc r.obj) := (Kept.refl [] wr).alloc _
        have HCL := Lib.hid (And.intro (rdAt_new wr r) (And.intro (HR.out.1.kept hkc (by simp)) (HR.out.2.1.trans' hkc)))
        obtain ⟨c1, hc1⟩ : ∃ c1, wr.heap.size = c1 := ⟨_, rfl⟩
        rw [hc1] at HCL ⊢
        have hbc : b2 < c1 := by rw [← hc1]; exact lt_of_block HR.out.1
        have hcz : (w.alloc (.cells #[I st, nv, vv] 24)).heap.size ≤ c1 := by have := HR.out.2.1.size; omega
        obtain ⟨wc, hwc2⟩ : ∃ wc, wr.alloc r.obj = wc := ⟨_, rfl⟩
        rw [hwc2] at HCL ⊢
        clear hkc hc1 hwc2
        go_wp2_with (fail)
        have hok : r.Ok := inv_ok HR.out.2.2.2.2.1.1 HR.out.2.2.2.2.1.2
        have hrl := HR.out.2.2.2.2.2
        have hlen : r.rest.length + l.length ≤ 1000000000 := by have := HC.out.2.1; omega
        by_cases hk2 : k2 = 0
        · subst hk2
          refine (write_as b2 l r r2 o2 0 wc HCL.out.2.1 hok hlen (write_ok HR.out.2.2.2.1 HC.out.2.2.2)).mono ?_
          rintro e w4 ⟨rfl, h4, k4⟩
          have H4 := Lib.hid (And.intro h4 (And.intro (HCL.out.1.kept k4 (by simp; omega)) (HCL.out.2.2.new1 k4 hbz)))
          clear h4 k4
          go_wp2_with (fail)
          refine (write_any c1 [48, 13, 10, 13, 10, 98, 101, 104, 105, 110, 100] r w4 H4.out.2.1 hok (by simp; omega)).mono ?_
          rintro e w5 ⟨rfl, h5, k5⟩
          have H5 := Lib.hid (And.intro (H4.out.1.kept k5 (by simp; omega)) (And.intro trivial (H4.out.2.2.new1 k5 hcz)))
          clear h5 k5
          go_wp2_with (fail)
          have hol : (out.length : Int) ≤ 2000 := by have := out_feeds (s.take at') R0; rw [HR.out.2.2.1] at this; simp at this; omega
          have ho2l : (o2.length : Int) ≤ 2000 := by have := out_feeds l r; rw [HC.out.2.2.2] at this; have h2 := HC.out.2.1; simp at this; omega
          obtain ⟨O, hO⟩ : ∃ O, out ++ o2 = O := ⟨_, rfl⟩
          have hg : feeds R0 (s.take (a2)) = (r2, O, 0) := by rw [HC.out.1, ← hO]; have := feeds_go HR.out.2.2.1 HC.out.2.2.2; rwa [if_pos rfl] at this
          have hri : ∀ (out' : List UInt8) (used : Int) (d : Bool) (k : Int), RunIs R0 (s.take (a2)) out' used d k → out' = O ∧ k = 0 ∧ d = doneF r2 ∧ (d = true → ∃ u : Nat, used = u ∧ u ≤ a2 ∧ r2.rest = (s.take (a2)).drop u) := by
            rintro out' used d k ⟨rr, q1, q2, q3⟩
            rw [hg] at q1
            simp only [Prod.mk.injEq] at q1
            obtain ⟨rfl, rfl, rfl⟩ := q1
            have he2 : r2.e = 0 := by rw [(feeds_e hg).1]; exact HO.out.2.1
            refine ⟨rfl, rfl, by rw [q2]; simp [doneF, he2], fun hd => ?_⟩
            have h3 := q3 hd
            have h4 := rest_drop hg HO.out.1
            rw [HC.out.2.2.1] at h3 h4
            exact ⟨a2 - r2.rest.length, by omega, by omega, h4.2⟩
          have HRI := Lib.hid hri
          have htold : r2.told = (O.length : Int) := by have := (feeds_out _ hg).1; rw [HO.out.2.2.1] at this; omega
          have hsz2 : r2.size = sz := by rw [(feeds_e hg).2]; exact HO.out.2.2.2.1
          have hinv2 := inv_feeds (s.take (a2)) HO.out.2.2.2.2.1 HO.out.2.2.2.2.2 (by rw [hg])
          rw [hg] at hinv2
          obtain ⟨rs, rw', g, en, hend⟩ := ends_as HKD.out hg hinv2.1 hinv2.2
          have hrl2 : r2.rest.length ≤ 2000 := by have := (rest_drop hg HO.out.1).1; rw [HC.out.2.2.1] at this; omega
          have HG := Lib.hid (And.intro hg (And.intro htold (And.intro hsz2 (And.intro hinv2 (And.intro hend hrl2)))))
          have HOO := Lib.hid hO
          clear hg hri htold hsz2 hinv2 hend hrl2
          have cc := H5.out.2.2
          obtain ⟨cc0, cc1, cc2⟩ := cells3' (cc.at (heap_new w _) (by simp))
          clear cc
          go_region_with ((go_at_call 9; go_must (refine (run_any hS st nv vv names values (s.take (a2)) _ (HI.out.1.kept (HA.out.trans' H5.out.2.2.drew)) (HI.out.2.1.kept (HA.out.trans' H5.out.2.2.drew)) HI.out.2.2.2.2 (by rw [HC.out.2.2.1]; omega) R0 HN.out).mono ?_); rintro e w6 ⟨out', used, d, k, rfl, hrun, k6⟩; have H6 := Lib.hid (And.intro (RdAt.kept (w := w5.drew) H5.out.1 k6 (by simp)) (H5.out.2.2.drew.trans' k6)); have hr6 := HRI.out _ _ _ _ hrun; clear k6 hrun))
          all_goals
            obtain ⟨rfl, rfl, rfl, hu⟩ := hr6
            have HW := H6
            have hend := HG.out.2.2.2.2.1
            have hcase : (doneF r2 = true ∧ en = true ∧ g = 0) ∨ (doneF r2 = false ∧ (kd == 3) = true ∧ en = true ∧ g = 0) ∨ (doneF r2 = false ∧ (kd == 3) = false ∧ en = false ∧ g = 182) := by
              have h1 := hend.is
              have h2 := hend.g0
              cases hd : doneF r2 with
              | true => rw [hd] at h1; simp at h1; subst h1; exact .inl ⟨rfl, rfl, h2⟩
              | false =>
                cases hkb : (kd == 3) with
                | true => rw [hd, hkb] at h1; simp at h1; subst h1; exact .inr (.inl ⟨rfl, rfl, rfl, h2⟩)
                | false => rw [hd, hkb] at h1; simp at h1; subst h1; exact .inr (.inr ⟨rfl, rfl, rfl, h2⟩)
            have HEND := Lib.hid hend
            have htb : (r2.told != (out'.length : Int)) = false := by have := HG.out.2.1; simp; omega
            have hsb : (r2.size != sz) = false := by have := HG.out.2.2.1; simp; omega
            have hO := HOO.out
            have HU := Lib.hid hu
            clear hu hend
            rcases hcase with ⟨hd, rfl, rfl⟩ | ⟨hd, hkb, rfl, rfl⟩ | ⟨hd, hkb, rfl, rfl⟩
            · obtain ⟨u, rfl, hu2, hu3⟩ := HU.out hd
              have hrr : restF r2 = r2.rest := by unfold restF; rw [if_pos hd]
              have hrl2 : (r2.rest.length : Int) ≤ 2000 := by have := HG.out.2.2.2.2.2; omega
              obtain ⟨rst, hrst⟩ : ∃ x, restF r2 = x := ⟨_, rfl⟩
              have hrn : (rst == List.drop u (List.take a2 s)) = true := by rw [← hrst, hrr, hu3]; simp
              rw [← hrr, hrst] at hrl2
              have HRS := Lib.hid hrst
              have HDN := Lib.hid hd
              have hu2' : (u : Int) ≤ a2 := by omega
              rw [hd]
              clear hrst hrr hu3 hd
              go_wp2_with (fail)
              go_quiet (first
                | (go_at_call 13; exact Calls.quiet_of_same (told_q b2 r2 _ (HW.out.1.drewN _)))
                | (go_at_call 11; exact Calls.quiet_of_same (done_q b2 r2 true HDN.out _ (HW.out.1.drewN _)))
                | (go_at_call 12; exact Calls.quiet_of_same (rest_q b2 r2 rst HRS.out _ (HW.out.1.drewN _)))
                | (go_at_call 14; exact Calls.quiet_of_same (size_q b2 r2 _ (HW.out.1.drewN _))))
              go_wp2_with (fail)
              refine (clone_any b2 r2 (w6.drewN nq) (HW.out.1.drewN _)).mono ?_
              rintro e w8 ⟨rfl, rfl⟩
              obtain ⟨c2, hc2⟩ : ∃ c2, (w6.drewN nq).heap.size = c2 := ⟨_, rfl⟩
              have hkc : Kept [] (w6.drewN nq) ((w6.drewN nq).alloc r2.obj) := (Kept.refl [] _).alloc _
              have HS8 := Lib.hid (And.intro (rdAt_new (w6.drewN nq) r2) (And.intro (RdAt.kept (w := w6.drewN nq) (HW.out.1.drewN _) hkc (by simp)) (Kept.trans' (HW.out.2.drewN _) hkc)))
              rw [hc2] at HS8 ⊢
              have hbc2 : b2 < c2 := by rw [← hc2]; exact lt_of_block (HW.out.1.drewN nq)
              have hcz2 : (w.alloc (.cells #[I st, nv, vv] 24)).heap.size ≤ c2 := by have := HBZ.out; omega
              obtain ⟨w8, hw8⟩ : ∃ w8, (w6.drewN nq).alloc r2.obj = w8 := ⟨_, rfl⟩
              rw [hw8] at HS8 ⊢
              clear hkc hc2 hw8
              go_wp2_with (fail)
              refine (close_as c2 r2 rs 0 w8 HS8.out.1 HEND.out.close).mono ?_
              rintro e w9 ⟨rfl, h9, k9⟩
              have H9 := Lib.hid (And.intro h9 (And.intro (HS8.out.2.1.kept k9 (by simp; omega)) (HS8.out.2.2.new1 k9 hcz2)))
              clear h9 k9
              go_wp2_with (fail)
              refine (done_any c2 rs w9 H9.out.1).mono ?_
              rintro e w' ⟨rfl, rfl⟩
              rw [HEND.out.done]
              go_wp2_with (fail)
              refine (write_as c2 [122] rs rw' [] 0 w9 H9.out.1 HEND.out.ok (by have h1 := HEND.out.le; have h2 := HG.out.2.2.2.2.2; simp; omega) HEND.out.write).mono ?_
              rintro e w10 ⟨rfl, h10, k10⟩
              have H10 := Lib.hid (And.intro h10 (And.intro (H9.out.2.1.kept k10 (by simp; omega)) (H9.out.2.2.new1 k10 hcz2)))
              clear h10 k10
              go_wp2_with (fail)
              refine (rest_q c2 rw' (rst ++ [122]) (by rw [HEND.out.rest rfl, HRS.out]) w10 H10.out.1).mono ?_
              rintro e w' ⟨rfl, rfl⟩
              go_wp2_with (fail)
              refine (rest_q b2 r2 rst HRS.out _ H10.out.2.1).mono ?_
              rintro e w' ⟨rfl, rfl⟩
              go_wp2_with (fail)
              go_roundw
              case rel => exact ⟨n + 1, a2, out', r2, rfl, rfl, by go_num, by omega, by omega, H10.out.2.1, H10.out.2.2, HG.out.1⟩
              case measure => simp [intOf]; omega
            · have hrs : restF r2 = [] := by unfold restF; rw [if_neg (by simp [hd])]
              have HRS := Lib.hid hrs
              have HDN := Lib.hid hd
              rw [hd]
              clear hrs hd
              go_wp2_with (fail)
              go_quiet (first
                | (go_at_call 13; exact Calls.quiet_of_same (told_q b2 r2 _ (HW.out.1.drewN _)))
                | (go_at_call 11; exact Calls.quiet_of_same (done_q b2 r2 false HDN.out _ (HW.out.1.drewN _)))
                | (go_at_call 12; exact Calls.quiet_of_same (rest_q b2 r2 [] HRS.out _ (HW.out.1.drewN _)))
                | (go_at_call 14; exact Calls.quiet_of_same (size_q b2 r2 _ (HW.out.1.drewN _))))
              go_wp2_with (fail)
              refine (clone_any b2 r2 (w6.drewN nq) (HW.out.1.drewN _)).mono ?_
              rintro e w8 ⟨rfl, rfl⟩
              obtain ⟨c2, hc2⟩ : ∃ c2, (w6.drewN nq).heap.size = c2 := ⟨_, rfl⟩
              have hkc : Kept [] (w6.drewN nq) ((w6.drewN nq).alloc r2.obj) := (Kept.refl [] _).alloc _
              have HS8 := Lib.hid (And.intro (rdAt_new (w6.drewN nq) r2) (And.intro (RdAt.kept (w := w6.drewN nq) (HW.out.1.drewN _) hkc (by simp)) (Kept.trans' (HW.out.2.drewN _) hkc)))
              rw [hc2] at HS8 ⊢
              have hbc2 : b2 < c2 := by rw [← hc2]; exact lt_of_block (HW.out.1.drewN nq)
              have hcz2 : (w.alloc (.cells #[I st, nv, vv] 24)).heap.size ≤ c2 := by have := HBZ.out; omega
              obtain ⟨w8, hw8⟩ : ∃ w8, (w6.drewN nq).alloc r2.obj = w8 := ⟨_, rfl⟩
              rw [hw8] at HS8 ⊢
              clear hkc hc2 hw8
              go_wp2_with (fail)
              refine (close_as c2 r2 rs 0 w8 HS8.out.1 HEND.out.close).mono ?_
              rintro e w9 ⟨rfl, h9, k9⟩
              have H9 := Lib.hid (And.intro h9 (And.intro (HS8.out.2.1.kept k9 (by simp; omega)) (HS8.out.2.2.new1 k9 hcz2)))
              clear h9 k9
              go_wp2_with (fail)
              refine (done_any c2 rs w9 H9.out.1).mono ?_
              rintro e w' ⟨rfl, rfl⟩
              rw [HEND.out.done]
              go_wp2_with (fail)
              refine (write_as c2 [122] rs rw' [] 0 w9 H9.out.1 HEND.out.ok (by have h1 := HEND.out.le; have h2 := HG.out.2.2.2.2.2; simp; omega) HEND.out.write).mono ?_
              rintro e w10 ⟨rfl, h10, k10⟩
              have H10 := Lib.hid (And.intro h10 (And.intro (H9.out.2.1.kept k10 (by simp; omega)) (H9.out.2.2.new1 k10 hcz2)))
              clear h10 k10
              go_wp2_with (fail)
              refine (rest_q c2 rw' ([] ++ [122]) (by rw [HEND.out.rest rfl, HRS.out]) w10 H10.out.1).mono ?_
              rintro e w' ⟨rfl, rfl⟩
              go_wp2_with (fail)
              refine (rest_q b2 r2 [] HRS.out _ H10.out.2.1).mono ?_
              rintro e w' ⟨rfl, rfl⟩
              go_wp2_with (fail)
              go_roundw
              case rel => exact ⟨n + 1, a2, out', r2, rfl, rfl, by go_num, by omega, by omega, H10.out.2.1, H10.out.2.2, HG.out.1⟩
              case measure => simp [intOf]; omega
            · have hrs : restF r2 = [] := by unfold restF; rw [if_neg (by simp [hd])]
              have HRS := Lib.hid hrs
              have HDN := Lib.hid hd
              rw [hd]
              clear hrs hd
              go_wp2_with (fail)
              go_quiet (first
                | (go_at_call 13; exact Calls.quiet_of_same (told_q b2 r2 _ (HW.out.1.drewN _)))
                | (go_at_call 11; exact Calls.quiet_of_same (done_q b2 r2 false HDN.out _ (HW.out.1.drewN _)))
                | (go_at_call 12; exact Calls.quiet_of_same (rest_q b2 r2 [] HRS.out _ (HW.out.1.drewN _)))
                | (go_at_call 14; exact Calls.quiet_of_same (size_q b2 r2 _ (HW.out.1.drewN _))))
              go_wp2_with (fail)
              refine (clone_any b2 r2 (w6.drewN nq) (HW.out.1.drewN _)).mono ?_
              rintro e w8 ⟨rfl, rfl⟩
              obtain ⟨c2, hc2⟩ : ∃ c2, (w6.drewN nq).heap.size = c2 := ⟨_, rfl⟩
              have hkc : Kept [] (w6.drewN nq) ((w6.drewN nq).alloc r2.obj) := (Kept.refl [] _).alloc _
              have HS8 := Lib.hid (And.intro (rdAt_new (w6.drewN nq) r2) (And.intro (RdAt.kept (w := w6.drewN nq) (HW.out.1.drewN _) hkc (by simp)) (Kept.trans' (HW.out.2.drewN _) hkc)))
              rw [hc2] at HS8 ⊢
              have hbc2 : b2 < c2 := by rw [← hc2]; exact lt_of_block (HW.out.1.drewN nq)
              have hcz2 : (w.alloc (.cells #[I st, nv, vv] 24)).heap.size ≤ c2 := by have := HBZ.out; omega
              obtain ⟨w8, hw8⟩ : ∃ w8, (w6.drewN nq).alloc r2.obj = w8 := ⟨_, rfl⟩
              rw [hw8] at HS8 ⊢
              clear hkc hc2 hw8
              go_wp2_with (fail)
              refine (close_as c2 r2 rs 182 w8 HS8.out.1 HEND.out.close).mono ?_
              rintro e w9 ⟨rfl, h9, k9⟩
              have H9 := Lib.hid (And.intro h9 (And.intro (HS8.out.2.1.kept k9 (by simp; omega)) (HS8.out.2.2.new1 k9 hcz2)))
              clear h9 k9
              go_wp2_with (fail)
              refine (done_any c2 rs w9 H9.out.1).mono ?_
              rintro e w' ⟨rfl, rfl⟩
              rw [HEND.out.done]
              go_wp2_with (fail)
              refine (write_as c2 [122] rs rw' [] 182 w9 H9.out.1 HEND.out.ok (by have h1 := HEND.out.le; have h2 := HG.out.2.2.2.2.2; simp; omega) HEND.out.write).mono ?_
              rintro e w10 ⟨rfl, h10, k10⟩
              have H10 := Lib.hid (And.intro h10 (And.intro (H9.out.2.1.kept k10 (by simp; omega)) (H9.out.2.2.new1 k10 hcz2)))
              clear h10 k10
              go_wp2_with (fail)
              go_roundw
              case rel => exact ⟨n + 1, a2, out', r2, rfl, rfl, by go_num, by omega, by omega, H10.out.2.1, H10.out.2.2, HG.out.1⟩
              case measure => simp [intOf]; omega
        · have hkb2 : (k2 != 0) = true := by simpa using hk2
          have hwe := write_err HR.out.2.2.2.1 HC.out.2.2.2 hk2
          obtain ⟨re, hre⟩ : ∃ re, ({ r2 with told := r.told, e := k2 } : Rd) = re := ⟨_, rfl⟩
          have hree : re.e = k2 := by rw [← hre]
          rw [hre] at hwe
          refine (write_as b2 l r re [] k2 wc HCL.out.2.1 hok hlen hwe).mono ?_
          rintro e w4 ⟨rfl, h4, k4⟩
          have H4 := Lib.hid (And.intro h4 (And.intro (HCL.out.1.kept k4 (by simp; omega)) (HCL.out.2.2.new1 k4 hbz)))
          have hre2 := hre
          clear hwe hre
          clear h4 k4
          go_wp2_with (fail)
          refine (write_any c1 [48, 13, 10, 13, 10, 98, 101, 104, 105, 110, 100] r w4 H4.out.2.1 hok (by simp; omega)).mono ?_
          rintro e w5 ⟨rfl, h5, k5⟩
          have H5 := Lib.hid (And.intro (H4.out.1.kept k5 (by simp; omega)) (And.intro trivial (H4.out.2.2.new1 k5 hcz)))
          clear h5 k5
          go_wp2_with (fail)
          have hg : feeds R0 (s.take a2) = (r2, [], k2) := by rw [HC.out.1]; have := feeds_go HR.out.2.2.1 HC.out.2.2.2; rwa [if_neg hk2] at this
          have hri : ∀ (out' : List UInt8) (used : Int) (d : Bool) (k : Int), RunIs R0 (s.take a2) out' used d k → out' = [] ∧ k = k2 ∧ d = false := by
            rintro out' used d k ⟨rr, q1, q2, q3⟩
            rw [hg] at q1
            simp only [Prod.mk.injEq] at q1
            obtain ⟨rfl, rfl, rfl⟩ := q1
            exact ⟨rfl, rfl, by rw [q2]; simp [hk2]⟩
          have HRI := Lib.hid hri
          have hrel : re.e ≠ 0 := by rw [hree]; exact hk2
          have hdn : doneF re = false := by simp [doneF, hrel]
          have HE2 := Lib.hid (And.intro hrel (And.intro hdn (And.intro (show restF re = [] by unfold restF; rw [if_neg (by simp [hdn])]) (And.intro (show writeF re [109, 111, 114, 101] = (re, [], k2) by unfold writeF; rw [if_neg hrel, hree]) (show closeF re = (re, k2) by unfold closeF; rw [if_pos (.inl hrel), hree])))))
          have HRL := Lib.hid (show re.Ok from fun h => absurd h hrel)
          have hrl3 : re.rest.length ≤ 1000000 := by
            have h1 := rest_feeds l r
            rw [HC.out.2.2.2] at h1
            have h2 : re.rest = r2.rest := by rw [← hre2]
            have h3 := HC.out.2.1
            rw [h2]; simp only at h1; omega
          clear hg hri hrel hdn hk2 hree
          have cc := H5.out.2.2
          obtain ⟨cc0, cc1, cc2⟩ := cells3' (cc.at (heap_new w _) (by simp))
          clear cc
          go_region_with ((go_at_call 9; (with_reducible refine (run_any hS st nv vv names values (s.take a2) _ (HI.out.1.kept (HA.out.trans' H5.out.2.2.drew)) (HI.out.2.1.kept (HA.out.trans' H5.out.2.2.drew)) HI.out.2.2.2.2 (by rw [HC.out.2.2.1]; omega) R0 HN.out).mono ?_); rintro e w6 ⟨out', used, d, k, rfl, hrun, k6⟩; have H6 := Lib.hid (And.intro (RdAt.kept (w := w5.drew) H5.out.1 k6 (by simp)) (H5.out.2.2.drew.trans' k6)); have hr6 := HRI.out _ _ _ _ hrun; clear k6 hrun))
          all_goals
            obtain ⟨rfl, rfl, rfl⟩ := hr6
            go_wp2_with (fail)
            refine (write_as b2 [109, 111, 114, 101] re re [] k w6 H6.out.1 HRL.out (by simp; omega) HE2.out.2.2.2.1).mono ?_
            rintro e w7 ⟨rfl, h7, k7⟩
            have H7 := Lib.hid (And.intro h7 (H6.out.2.new1 k7 hbz))
            clear h7 k7
            go_wp2_with (fail)
            refine (close_as b2 re re k w7 H7.out.1 HE2.out.2.2.2.2).mono ?_
            rintro e w8 ⟨rfl, h8, k8⟩
            have H8 := Lib.hid (And.intro h8 (H7.out.2.new1 k8 hbz))
            clear h8 k8
            go_wp2_with (fail)
            refine (done_q b2 re false HE2.out.2.1 w8 H8.out.1).mono ?_
            rintro e w' ⟨rfl, rfl⟩
            go_wp2_with (fail)
            refine (rest_q b2 re [] HE2.out.2.2.1 _ H8.out.1).mono ?_
            rintro e w' ⟨rfl, rfl⟩
            go_wp2_with (fail)
            refine (fixed_any _ (HI.out.2.2.2.1.kept (HA.out.trans' H8.out.2))).mono ?_
            rintro e w9 ⟨rfl, k9⟩
            go_wp2_with (fail)
            go_ret
            exact ⟨rfl, (HA.out.trans' H8.out.2).trans' k9⟩
end BD
end Go.Proofs.YtgdncdhalnijcaaDoor
