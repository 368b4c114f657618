/- Walks and lemmas on the program of this seat, used by its statements; each theorem bears its own conditions. -/
import Derived.Test.YtamihbcgiaeacaaDoorRdR
namespace Go.Proofs.YtamihbcgiaeacaaDoor
open Go.RowKit
set_option linter.unusedVariables false
set_option linter.unusedSimpArgs false
set_option maxRecDepth 100000 in
set_option maxHeartbeats 4000000 in
theorem bounds_any (st : Int) (nv vv cv : Value) (names values : List (List UInt8)) (s : List UInt8) (zs : List Int) (w : World) (hn : StrsAt w nv names) (hv : StrsAt w vv values) (hc : IntsAt w cv zs) (hT : Tabs w)
    (hs64 : (s.length : Int) ≤ 9223372036854775807) :
    Calls Tryd.prog 5 #[.agg #[I st, nv, vv], S s, cv] w (LawPost w) := by
  have HI := Lib.hid (And.intro hn (And.intro hv (And.intro hc hT)))
  obtain ⟨zp, zcap, rfl, hzl, hzz, hzc⟩ := hc
  have HZ := Lib.hid (And.intro hzz hzc)
  have hzl' : (zs.length : Int) ≤ 9223372036854775807 := by omega
  clear hn hv hT hzz hzc hzl
  have hA : Kept [] w (w.alloc (.cells #[I st, nv, vv] 24)) := (Kept.refl _ _).alloc _
  have HA := Lib.hid hA
  clear hA
  rcases newF_cases st names values with ⟨k, hnew, hk⟩ | ⟨R0, hnew, hinv, hst, he0, hr0, ht0, _⟩
  · have HN := Lib.hid hnew
    clear hnew hk
    go_enter Tryd.func5, Tryd.ntmps5
    go_wp2_with (fail)
    refine (new_no st nv vv names values _ (HI.out.1.kept HA.out) (HI.out.2.1.kept HA.out) (HI.out.2.2.2.kept HA.out) k HN.out).mono ?_
    rintro e w1 ⟨rfl, k1⟩
    have K1 := HA.out.trans' k1
    clear k1
    go_wp2_with (fail)
    refine (fixed_any _ (HI.out.2.2.2.kept K1)).mono ?_
    rintro e w3 ⟨rfl, k3⟩
    go_wp2_with (fail)
    go_ret
    exact ⟨rfl, K1.trans' k3⟩
  have HN := Lib.hid hnew
  have hok : R0.Ok := inv_ok hinv hst
  have hsz : Sz R0 := fun hs => by
    obtain ⟨h1, h2⟩ := newF_sized hnew hs
    rcases h1 with h1 | ⟨h1, h3⟩
    · left; exact ⟨h1, by omega⟩
    · right; exact ⟨h1, by omega⟩
  have HO := Lib.hid (And.intro hok (And.intro he0 (And.intro hr0 (And.intro hinv (And.intro hst (And.intro ht0 hsz))))))
  clear hnew hinv hst he0 hr0 hok ht0 hsz
  go_enter Tryd.func5, Tryd.ntmps5
  go_wp2_with (fail)
  refine (new_yes st nv vv names values _ (HI.out.1.kept HA.out) (HI.out.2.1.kept HA.out) (HI.out.2.2.2.kept HA.out) R0 HN.out).mono ?_
  rintro e w1 ⟨b2, hb1, rfl, h1, k1⟩
  have K1 := HA.out.trans' k1
  have Z2 : w.heap.size ≤ b2 := Nat.le_trans HA.out.size hb1
  have H1 := Lib.hid h1
  clear k1 hb1 h1
  by_cases hlen : (s.length : Int) > 20000
  · go_wp2_with (fail)
    refine (fixed_any _ (HI.out.2.2.2.kept K1)).mono ?_
    rintro e w3 ⟨rfl, k3⟩
    go_wp2_with (fail)
    go_ret
    exact ⟨rfl, K1.trans' k3⟩
  have hlen' : (s.length : Int) ≤ 20000 := by omega
  clear hlen
  go_wp2_with (fail)
  go_loopw [9, 10, 11] (fun x t i wr => ∃ (n : Nat) (pre suf out : List UInt8) (r : Rd), s = pre ++ suf ∧ t = I out.length ∧ x = S suf ∧ i = I n ∧ n ≤ 50 ∧ feeds R0 pre = (r, out, 0) ∧ RdAt wr b2 r ∧ Kept [] w wr) (fun _ _ i _ => 50 - (intOf i).toNat)
  case atStart => exact ⟨0, [], s, [], R0, rfl, rfl, rfl, rfl, by omega, rfl, H1.out, K1⟩
  case round =>
    obtain ⟨n, pre, suf, out, r, hcat, rfl, rfl, rfl, hn, hf, hr2, hk⟩ := hrel
    have hlen2 : pre.length + suf.length = s.length := by rw [hcat]; simp
    have hsuf : (suf.length : Int) ≤ 20000 := by omega
    have hpre : (pre.length : Int) ≤ 20000 := by omega
    have hrst := rest_feeds pre R0
    rw [hf] at hrst
    simp only at hrst
    rw [HO.out.2.2.1] at hrst
    simp only [List.length_nil, Nat.zero_add] at hrst
    have hre : r.e = 0 := by rw [(feeds_e hf).1]; exact HO.out.2.1
    have hob := out_feeds pre R0
    rw [hf] at hob
    simp only at hob
    have hiv := inv_feeds pre HO.out.2.2.2.1 HO.out.2.2.2.2.1 (by rw [hf])
    rw [hf] at hiv
    have hbo := bounds_ok HO.out.2.2.2.2.2.2 HO.out.2.2.2.2.2.1 HO.out.2.2.1 HO.out.2.2.2.1 HO.out.2.2.2.2.1 hf
    have HR := Lib.hid (And.intro hcat (And.intro hf (And.intro hr2 (And.intro hk (And.intro hre (And.intro hiv (And.intro hlen2 hbo)))))))
    have HL2 := Lib.hid hlen2
    clear hcat hf hr2 hk hre hiv hbo
    have hstop : n = 50 ∨ suf = [] ∨ (n < 50 ∧ suf ≠ []) := by
      by_cases h1 : suf = []
      · exact .inr (.inl h1)
      · by_cases h2 : n < 50
        · exact .inr (.inr ⟨h2, h1⟩)
        · exact .inl (by omega)
    rcases hstop with h50 | hnil | ⟨hn50, hne⟩
    · subst h50
      clear hlen2
      go_wp2_with (fail)
      refine (fixed_any _ (HI.out.2.2.2.kept HR.out.2.2.2.1)).mono ?_
      rintro e w5 ⟨rfl, k5⟩
      go_wp2_with (fail)
      go_ret
      exact ⟨rfl, HR.out.2.2.2.1.trans' k5⟩
    · subst hnil
      clear hlen2
      by_cases hn5 : (n : Int) < 50
      all_goals
        go_wp2_with (fail)
        refine (fixed_any _ (HI.out.2.2.2.kept HR.out.2.2.2.1)).mono ?_
        rintro e w5 ⟨rfl, k5⟩
        go_wp2_with (fail)
        go_ret
        exact ⟨rfl, HR.out.2.2.2.1.trans' k5⟩
    · have hn5 : (n : Int) < 50 := by omega
      have hse : (!suf.isEmpty) = true := by simpa using hne
      clear hne hlen2
      by_cases hzn : n < zs.length
      · obtain ⟨zb, zo, rfl, hcell⟩ := HZ.out.2 (by intro h; rw [h] at hzn; simp at hzn)
        have hz1 := hcell n hzn
        have hz2 := HR.out.2.2.2.1.cell (World.block_lt_of_cell? w _ hz1) (by simp)
        rw [hz1] at hz2
        obtain ⟨hzlo, hzhi⟩ := HZ.out.1 zs[n] (List.getElem_mem _)
        generalize zs[n] = z at *
        have hz3 := World.block_lt_of_cell? w _ hz1
        clear hcell hz1
        have hc3 : (n : Int) < zs.length := by omega
        obtain ⟨m, hm, hm2⟩ : ∃ m : Nat, min (suf.length : Int) (z % 1024) = (m : Int) ∧ m ≤ suf.length := by
          rw [Int.min_def]
          split
          · exact ⟨suf.length, rfl, Nat.le_refl _⟩
          · exact ⟨(z % 1024).toNat, by omega, by omega⟩
        go_wp2_with (fail)
        have hml : (suf.take m).length = m := by simp; omega
        obtain ⟨r2, o2, k2, hw2⟩ : ∃ r2 o2 k2, feeds r (suf.take m) = (r2, o2, k2) := ⟨_, _, _, rfl⟩
        have ho2 := out_feeds (suf.take m) r
        rw [hw2, hml] at ho2
        simp only at ho2
        have HW2 := Lib.hid hw2
        have HML := Lib.hid hml
        clear hw2 hml
        have hcat2 : s = (pre ++ suf.take m) ++ suf.drop m := by rw [List.append_assoc]; rw [List.take_append_drop]; exact HR.out.1
        have HCAT := Lib.hid hcat2
        clear hcat2
        by_cases hk2 : k2 = 0
        · subst hk2
          refine (write_as b2 _ r r2 o2 0 wr HR.out.2.2.1 (inv_ok HR.out.2.2.2.2.2.1.1 HR.out.2.2.2.2.2.1.2) (by rw [HML.out]; omega) (write_ok HR.out.2.2.2.2.1 HW2.out)).mono ?_
          rintro e w4 ⟨rfl, h2, k4⟩
          have hg := feeds_go HR.out.2.1 HW2.out
          rw [if_pos rfl] at hg
          have hbo := bounds_ok HO.out.2.2.2.2.2.2 HO.out.2.2.2.2.2.1 HO.out.2.2.1 HO.out.2.2.2.1 HO.out.2.2.2.2.1 hg
          obtain ⟨q1, q2, q3, q4, q5⟩ := hbo
          have HQ := Lib.hid (And.intro h2 (And.intro (HR.out.2.2.2.1.new1 k4 Z2) hg))
          have hml2 := HML.out
          have hls := HL2.out
          simp only [List.length_append] at q1 q2 q3 q4 q5
          have hol : (out.length : Int) + o2.length ≤ 40000 := by omega
          have htb : (r2.told != (out.length : Int) + o2.length) = false := by simp; omega
          have ht2 : ¬ (1048576 : Int) < (out.length : Int) + o2.length := by omega
          have hrr : (out.length : Int) + o2.length + (restF r2).length + ((suf.length : Int) - m) ≤ s.length := by omega
          have hrr' : ((restF r2).length : Int) ≤ 20000 := by omega
          have HS3 := Lib.hid q3
          have HS5 := Lib.hid q5
          clear h2 k4 hg q1 q2 q3 q4 q5 hml2 hls
          have hss : r2.size < 0 ∨ (0 ≤ r2.size ∧ ¬ r2.size < (out.length : Int) + o2.length) := by
            by_cases h : 0 ≤ r2.size
            · right; exact ⟨h, by have := HS3.out h; omega⟩
            · left; omega
          go_wp2_with (fail)
          refine (told_any b2 _ w4 HQ.out.1).mono ?_
          rintro e w5 ⟨rfl, rfl⟩
          rcases hss with hs0 | ⟨hs0, hs1⟩
          · go_wp2_with (fail)
            refine (size_any b2 _ w4 HQ.out.1).mono ?_
            rintro e w5 ⟨rfl, rfl⟩
            go_wp2_with (fail)
            refine (rest_any b2 _ w4 HQ.out.1).mono ?_
            rintro e w5 ⟨rfl, rfl⟩
            go_wp2_with (fail)
            refine (done_any b2 _ w4 HQ.out.1).mono ?_
            rintro e w5 ⟨rfl, rfl⟩
            cases hd : doneF r2 with
            | true =>
              go_wp2_with (fail)
              refine (size_any b2 _ w4 HQ.out.1).mono ?_
              rintro e w5 ⟨rfl, rfl⟩
              go_wp2_with (fail)
              exact ⟨⟨n + 1, pre ++ suf.take m, suf.drop m, out ++ o2, r2, HCAT.out, by simp, rfl, by go_num, by omega, HQ.out.2.2, HQ.out.1, HQ.out.2.1⟩, by simp [intOf]; omega⟩
            | false =>
              go_wp2_with (fail)
              exact ⟨⟨n + 1, pre ++ suf.take m, suf.drop m, out ++ o2, r2, HCAT.out, by simp, rfl, by go_num, by omega, HQ.out.2.2, HQ.out.1, HQ.out.2.1⟩, by simp [intOf]; omega⟩
          · go_wp2_with (fail)
            refine (size_any b2 _ w4 HQ.out.1).mono ?_
            rintro e w5 ⟨rfl, rfl⟩
            go_wp2_with (fail)
            refine (size_any b2 _ w4 HQ.out.1).mono ?_
            rintro e w5 ⟨rfl, rfl⟩
            go_wp2_with (fail)
            refine (rest_any b2 _ w4 HQ.out.1).mono ?_
            rintro e w5 ⟨rfl, rfl⟩
            go_wp2_with (fail)
            refine (done_any b2 _ w4 HQ.out.1).mono ?_
            rintro e w5 ⟨rfl, rfl⟩
            cases hd : doneF r2 with
            | true =>
              have hsb : (((out.length : Int) + o2.length) != r2.size) = false := by have := HS5.out hd hs0; simp; omega
              go_wp2_with (fail)
              refine (size_any b2 _ w4 HQ.out.1).mono ?_
              rintro e w5 ⟨rfl, rfl⟩
              go_wp2_with (fail)
              refine (size_any b2 _ w4 HQ.out.1).mono ?_
              rintro e w5 ⟨rfl, rfl⟩
              go_wp2_with (fail)
              exact ⟨⟨n + 1, pre ++ suf.take m, suf.drop m, out ++ o2, r2, HCAT.out, by simp, rfl, by go_num, by omega, HQ.out.2.2, HQ.out.1, HQ.out.2.1⟩, by simp [intOf]; omega⟩
            | false =>
              go_wp2_with (fail)
              exact ⟨⟨n + 1, pre ++ suf.take m, suf.drop m, out ++ o2, r2, HCAT.out, by simp, rfl, by go_num, by omega, HQ.out.2.2, HQ.out.1, HQ.out.2.1⟩, by simp [intOf]; omega⟩
        · have hkb : (k2 != 0) = true := by simpa using hk2
          have HK2 := Lib.hid hk2
          clear hk2
          refine (write_as b2 _ r _ [] k2 wr HR.out.2.2.1 (inv_ok HR.out.2.2.2.2.2.1.1 HR.out.2.2.2.2.2.1.2) (by rw [HML.out]; omega) (write_err HR.out.2.2.2.2.1 HW2.out HK2.out)).mono ?_
          rintro e w4 ⟨rfl, h2, k4⟩
          have HQ := Lib.hid (And.intro h2 (HR.out.2.2.2.1.new1 k4 Z2))
          have htb : (r.told == (out.length : Int)) = true := by have := HR.out.2.2.2.2.2.2.2.1; simp; omega
          clear h2 k4
          go_wp2_with (fail)
          refine (told_any b2 _ w4 HQ.out.1).mono ?_
          rintro e w5 ⟨rfl, rfl⟩
          go_wp2_with (fail)
          refine (fixed_any _ (HI.out.2.2.2.kept HQ.out.2)).mono ?_
          rintro e w5 ⟨rfl, k5⟩
          go_wp2_with (fail)
          go_ret
          exact ⟨rfl, HQ.out.2.trans' k5⟩
      · have hc3 : ¬ (n : Int) < zs.length := by omega
        obtain ⟨m, hm, hm2⟩ : ∃ m : Nat, m = suf.length ∧ m ≤ suf.length := ⟨_, rfl, Nat.le_refl _⟩
        have HMS := Lib.hid hm
        clear hm
        go_wp2_with (fail)
        have hml : (suf).length = m := HMS.out.symm
        obtain ⟨r2, o2, k2, hw2⟩ : ∃ r2 o2 k2, feeds r (suf) = (r2, o2, k2) := ⟨_, _, _, rfl⟩
        have ho2 := out_feeds (suf) r
        rw [hw2, hml] at ho2
        simp only at ho2
        have HW2 := Lib.hid hw2
        have HML := Lib.hid hml
        clear hw2 hml
        have hcat2 : s = (pre ++ suf) ++ ([] : List UInt8) := by rw [List.append_assoc]; rw [List.append_nil]; exact HR.out.1
        have HCAT := Lib.hid hcat2
        clear hcat2
        by_cases hk2 : k2 = 0
        · subst hk2
          refine (write_as b2 _ r r2 o2 0 wr HR.out.2.2.1 (inv_ok HR.out.2.2.2.2.2.1.1 HR.out.2.2.2.2.2.1.2) (by rw [HML.out]; omega) (write_ok HR.out.2.2.2.2.1 HW2.out)).mono ?_
          rintro e w4 ⟨rfl, h2, k4⟩
          have hg := feeds_go HR.out.2.1 HW2.out
          rw [if_pos rfl] at hg
          have hbo := bounds_ok HO.out.2.2.2.2.2.2 HO.out.2.2.2.2.2.1 HO.out.2.2.1 HO.out.2.2.2.1 HO.out.2.2.2.2.1 hg
          obtain ⟨q1, q2, q3, q4, q5⟩ := hbo
          have HQ := Lib.hid (And.intro h2 (And.intro (HR.out.2.2.2.1.new1 k4 Z2) hg))
          have hml2 := HML.out
          have hls := HL2.out
          simp only [List.length_append] at q1 q2 q3 q4 q5
          have hol : (out.length : Int) + o2.length ≤ 40000 := by omega
          have htb : (r2.told != (out.length : Int) + o2.length) = false := by simp; omega
          have ht2 : ¬ (1048576 : Int) < (out.length : Int) + o2.length := by omega
          have hrr : (out.length : Int) + o2.length + (restF r2).length + ((suf.length : Int) - m) ≤ s.length := by omega
          have hrr' : ((restF r2).length : Int) ≤ 20000 := by omega
          have HS3 := Lib.hid q3
          have HS5 := Lib.hid q5
          clear h2 k4 hg q1 q2 q3 q4 q5 hml2 hls
          have hss : r2.size < 0 ∨ (0 ≤ r2.size ∧ ¬ r2.size < (out.length : Int) + o2.length) := by
            by_cases h : 0 ≤ r2.size
            · right; exact ⟨h, by have := HS3.out h; omega⟩
            · left; omega
          go_wp2_with (fail)
          refine (told_any b2 _ w4 HQ.out.1).mono ?_
          rintro e w5 ⟨rfl, rfl⟩
          rcases hss with hs0 | ⟨hs0, hs1⟩
          · go_wp2_with (fail)
            refine (size_any b2 _ w4 HQ.out.1).mono ?_
            rintro e w5 ⟨rfl, rfl⟩
            go_wp2_with (fail)
            refine (rest_any b2 _ w4 HQ.out.1).mono ?_
            rintro e w5 ⟨rfl, rfl⟩
            go_wp2_with (fail)
            refine (done_any b2 _ w4 HQ.out.1).mono ?_
            rintro e w5 ⟨rfl, rfl⟩
            cases hd : doneF r2 with
            | true =>
              go_wp2_with (fail)
              refine (size_any b2 _ w4 HQ.out.1).mono ?_
              rintro e w5 ⟨rfl, rfl⟩
              go_wp2_with (fail)
              exact ⟨⟨n + 1, pre ++ suf, ([] : List UInt8), out ++ o2, r2, HCAT.out, by simp, rfl, by go_num, by omega, HQ.out.2.2, HQ.out.1, HQ.out.2.1⟩, by simp [intOf]; omega⟩
            | false =>
              go_wp2_with (fail)
              exact ⟨⟨n + 1, pre ++ suf, ([] : List UInt8), out ++ o2, r2, HCAT.out, by simp, rfl, by go_num, by omega, HQ.out.2.2, HQ.out.1, HQ.out.2.1⟩, by simp [intOf]; omega⟩
          · go_wp2_with (fail)
            refine (size_any b2 _ w4 HQ.out.1).mono ?_
            rintro e w5 ⟨rfl, rfl⟩
            go_wp2_with (fail)
            refine (size_any b2 _ w4 HQ.out.1).mono ?_
            rintro e w5 ⟨rfl, rfl⟩
            go_wp2_with (fail)
            refine (rest_any b2 _ w4 HQ.out.1).mono ?_
            rintro e w5 ⟨rfl, rfl⟩
            go_wp2_with (fail)
            refine (done_any b2 _ w4 HQ.out.1).mono ?_
            rintro e w5 ⟨rfl, rfl⟩
            cases hd : doneF r2 with
            | true =>
              have hsb : (((out.length : Int) + o2.length) != r2.size) = false := by have := HS5.out hd hs0; simp; omega
              go_wp2_with (fail)
              refine (size_any b2 _ w4 HQ.out.1).mono ?_
              rintro e w5 ⟨rfl, rfl⟩
              go_wp2_with (fail)
              refine (size_any b2 _ w4 HQ.out.1).mono ?_
              rintro e w5 ⟨rfl, rfl⟩
              go_wp2_with (fail)
              exact ⟨⟨n + 1, pre ++ suf, ([] : List UInt8), out ++ o2, r2, HCAT.out, by simp, rfl, by go_num, by omega, HQ.out.2.2, HQ.out.1, HQ.out.2.1⟩, by simp [intOf]; omega⟩
            | false =>
              go_wp2_with (fail)
              exact ⟨⟨n + 1, pre ++ suf, ([] : List UInt8), out ++ o2, r2, HCAT.out, by simp, rfl, by go_num, by omega, HQ.out.2.2, HQ.out.1, HQ.out.2.1⟩, by simp [intOf]; omega⟩
        · have hkb : (k2 != 0) = true := by simpa using hk2
          have HK2 := Lib.hid hk2
          clear hk2
          refine (write_as b2 _ r _ [] k2 wr HR.out.2.2.1 (inv_ok HR.out.2.2.2.2.2.1.1 HR.out.2.2.2.2.2.1.2) (by rw [HML.out]; omega) (write_err HR.out.2.2.2.2.1 HW2.out HK2.out)).mono ?_
          rintro e w4 ⟨rfl, h2, k4⟩
          have HQ := Lib.hid (And.intro h2 (HR.out.2.2.2.1.new1 k4 Z2))
          have htb : (r.told == (out.length : Int)) = true := by have := HR.out.2.2.2.2.2.2.2.1; simp; omega
          clear h2 k4
          go_wp2_with (fail)
          refine (told_any b2 _ w4 HQ.out.1).mono ?_
          rintro e w5 ⟨rfl, rfl⟩
          go_wp2_with (fail)
          refine (fixed_any _ (HI.out.2.2.2.kept HQ.out.2)).mono ?_
          rintro e w5 ⟨rfl, k5⟩
          go_wp2_with (fail)
          go_ret
          exact ⟨rfl, HQ.out.2.trans' k5⟩
end Go.Proofs.YtamihbcgiaeacaaDoor
