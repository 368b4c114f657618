/- BodyBack, walked. -/
import Derived.Test.YtamihbcgiaeacaaDoorRdU
namespace Go.Proofs.YtamihbcgiaeacaaDoor
open Go.RowKit
set_option linter.unusedVariables false
set_option linter.unusedSimpArgs false
theorem newK : newF 200 [teName] [[99, 104, 117, 110, 107, 101, 100]] = (some rdC, 0) := by rfl
def rdT (n : Nat) : Rd := { rdC with told := n }
theorem feeds_begun {t a x : List UInt8} (h : feeds rdC t = (rdT a.length, a, 0)) (ha : a.length + x.length ≤ 20000) (hx : x ≠ []) : feeds rdC (t ++ (hexL 5 x.length ++ [13, 10] ++ x ++ [13, 10])) = (rdT (a ++ x).length, a ++ x, 0) := by
  have h2 := feeds_chunk x (rdT a.length) hx rfl rfl rfl (by simp [rdT]) (by simp only [rdT]; omega)
  have h3 := feeds_go h h2
  rw [if_pos rfl] at h3
  have h4 : ({ rdT a.length with told := (rdT a.length).told + x.length } : Rd) = rdT (a ++ x).length := by simp [rdT]
  rw [h4] at h3
  exact h3
def rdL (n : Nat) (k m : Int) : Rd := { rdC with told := n, state := 7, lines := k, many := m }
theorem feeds_last {t a : List UInt8} (h : feeds rdC t = (rdT a.length, a, 0)) : feeds rdC (t ++ [48, 48, 48, 13, 10]) = (rdL a.length 0 0, a, 0) := by
  have h2 := feeds_zero (rdT a.length) rfl rfl rfl
  have h3 := feeds_go h h2
  rw [if_pos rfl, List.append_nil] at h3
  exact h3
theorem feeds_lined {t a : List UInt8} {k : Nat} {m : Int} (h : feeds rdC t = (rdL a.length k m, a, 0)) (hk : k < 32) : ∃ m', feeds rdC (t ++ lineL) = (rdL a.length (k + 1 : Nat) m', a, 0) := by
  obtain ⟨m', h2⟩ := feeds_line (rdL a.length k m) rfl (by simp only [rdL]; omega)
  have h3 := feeds_go h h2
  rw [if_pos rfl, List.append_nil] at h3
  exact ⟨m', h3⟩
theorem feeds_behind {t a : List UInt8} {k : Nat} {m : Int} (h : feeds rdC t = (rdL a.length k m, a, 0)) : feeds rdC (t ++ [13, 10, 98, 101, 104, 105, 110, 100]) = ({ rdL a.length k m with state := 11, rest := [98, 101, 104, 105, 110, 100] }, a, 0) := by
  have e1 : feed (rdL a.length k m) 13 = ({ rdL a.length k m with state := 10 }, [], 0) := by simp [feed, byteF, rdL, withinF]
  have e2 : feed { rdL a.length k m with state := 10 } 10 = ({ rdL a.length k m with state := 11 }, [], 0) := by simp [feed, byteF, rdL, isF]
  have e3 := feeds_done [98, 101, 104, 105, 110, 100] { rdL a.length k m with state := 11 } rfl
  have h2 := feeds_cons_ok e1 (feeds_cons_ok e2 e3)
  have h3 := feeds_go h h2
  rw [if_pos rfl] at h3
  simpa [rdL, rdC, rdNil] using h3
def Rd.addTold (r : Rd) (n : Nat) : Rd := { r with told := n }
theorem feeds_openO (a : List UInt8) (h : a.length ≤ 20000) : feeds rdO a = (rdO.addTold a.length, a, 0) := by
  rw [feeds_open a rdO rfl (by decide) (by decide), if_pos (by simp only [rdO, rdNil]; omega)]
  simp [Rd.addTold, rdO, rdNil]
theorem hex_quiet (n : Nat) (w : World) (hn : n ≤ 20000) : Calls Tryd.prog 14 #[I n] w fun e w' => e = .returned (S (hexL 5 n)) ∧ w' = w := (hex_any n w hn).mono fun _ _ h => ⟨h.1, h.2.symm⟩
set_option maxRecDepth 100000 in
set_option maxHeartbeats 4000000 in
theorem back_any (lv : Value) (l : List (List UInt8)) (lines : Int) (w : World) (hl : StrsAt w lv l) (hT : Tabs w) (h64 : -9223372036854775808 ≤ lines ∧ lines ≤ 9223372036854775807) :
    Calls Tryd.prog 4 #[lv, I lines] w (LawPost w) := by
  have HI := Lib.hid (And.intro hl hT)
  obtain ⟨lp, lcap, rfl, hll, hlc⟩ := hl
  have HC := Lib.hid hlc
  have hll' : (l.length : Int) ≤ 9223372036854775807 := by omega
  clear hT hlc
  go_enter Tryd.func4, Tryd.ntmps4
  go_wp2_with (fail)
  go_loopw [5, 6, 7] (fun x y i wr => ∃ (n : Nat) (t a : List UInt8), x = S t ∧ y = S a ∧ i = I n ∧ n ≤ 100 ∧ feeds rdC t = (rdT a.length, a, 0) ∧ a.length ≤ 20000 ∧ t.length ≤ a.length + 12 * n ∧ Kept [] w wr) (fun _ _ i _ => 100 - (intOf i).toNat)
  case atStart => exact ⟨0, [], [], rfl, rfl, rfl, by omega, rfl, by simp, by simp, Kept.refl _ _⟩
  case round =>
    obtain ⟨n, t, a, rfl, rfl, rfl, hn, hf, ha, ht, hk⟩ := hrel
    have HR := Lib.hid (And.intro hf (And.intro ha (And.intro ht hk)))
    have ha' : (a.length : Int) ≤ 20000 := by omega
    have ht' : (t.length : Int) ≤ 30000 := by omega
    clear hf hk ht ha
    have hstop : (n < l.length ∧ n < 100) ∨ (¬ n < l.length ∨ ¬ n < 100) := by omega
    rcases hstop with ⟨h1, h2⟩ | hst
    · have h1' : (n : Int) < l.length := by omega
      have h2' : (n : Int) < 100 := by omega
      obtain ⟨zb, zo, rfl, hcell⟩ := HC.out (by intro h; rw [h] at h1; simp at h1)
      have hz1 := hcell n h1
      have hz2 := HR.out.2.2.2.cell (World.block_lt_of_cell? w _ hz1) (by simp)
      rw [hz1] at hz2
      generalize l[n] = x at *
      clear hcell hz1
      rcases (show x = [] ∨ (x ≠ [] ∧ (x.length : Int) > 20000 - a.length) ∨ (x ≠ [] ∧ ¬ (x.length : Int) > 20000 - a.length) by by_cases h : x = [] <;> by_cases h' : (x.length : Int) > 20000 - a.length <;> simp [h, h']) with rfl | ⟨hx, hx2⟩ | ⟨hx, hx2⟩
      · go_wp2_with (fail)
        exact ⟨⟨n + 1, t, a, rfl, rfl, by go_num, by omega, HR.out.1, HR.out.2.1, by have := HR.out.2.2.1; omega, HR.out.2.2.2⟩, by simp [intOf]; omega⟩
      · have hx0 : ¬ (x.length : Int) = 0 := by have := List.length_pos_iff.2 hx; omega
        have hx1 : ((x.length : Int) == 0) = false := by simpa using hx0
        clear hx
        go_wp2_with (fail)
        exact ⟨⟨n + 1, t, a, rfl, rfl, by go_num, by omega, HR.out.1, HR.out.2.1, by have := HR.out.2.2.1; omega, HR.out.2.2.2⟩, by simp [intOf]; omega⟩
      · have hx0 : ¬ (x.length : Int) = 0 := by have := List.length_pos_iff.2 hx; omega
        have hx1 : ((x.length : Int) == 0) = false := by simpa using hx0
        have HX := Lib.hid hx
        have hul : (hexL 5 x.length).length ≤ 6 := (hexL_len 5 x.length).1
        clear hx
        have hxn : (x.length : Int) ≤ 20000 := by omega
        have hxn' : x.length ≤ 20000 := by omega
        have han : a.length ≤ 20000 := by omega
        have htn : t.length ≤ 30000 := by omega
        go_wp2_with (fail)
        go_quiet ((go_at_call 14; exact Calls.quiet_of_same (hex_quiet x.length _ hxn')))
        go_wp2_with (fail)
        refine ⟨⟨n + 1, t ++ (hexL 5 x.length ++ [13, 10] ++ x ++ [13, 10]), a ++ x, ?_, rfl, by go_num, by omega, feeds_begun HR.out.1 (by omega) HX.out, by simp; omega, by have := HR.out.2.2.1; simp; omega, HR.out.2.2.2.drewN _⟩, by simp [intOf]; omega⟩
        simp
    · have HL := Lib.hid (feeds_last HR.out.1)
      have htn : t.length ≤ 30000 := by omega
      obtain ⟨z, hz, hz0, hz1⟩ : ∃ z : Int, lines % 32 = z ∧ 0 ≤ z ∧ z ≤ 31 := ⟨_, rfl, by omega, by omega⟩
      rcases (show ¬ (n : Int) < l.length ∨ ((n : Int) < l.length ∧ ¬ (n : Int) < 100) by omega) with h1 | ⟨h1, h2⟩
      all_goals
        clear hst
        go_wp2_with (fail)
        go_loopw [5, 8] (fun x i ww => ∃ (k : Nat) (m : Int) (u : List UInt8), x = S u ∧ i = I k ∧ (k : Int) ≤ z ∧ feeds rdC u = (rdL a.length k m, a, 0) ∧ u.length ≤ 31000 + 12 * k ∧ ww = wr) (fun _ i _ => 32 - (intOf i).toNat)
        case atStart => exact ⟨0, 0, t ++ [48, 48, 48, 13, 10], rfl, rfl, hz0, HL.out, by simp; omega, rfl⟩
        case round =>
          obtain ⟨k, m, u, rfl, rfl, hk, hf, hu, rfl⟩ := hrel
          have HF := Lib.hid hf
          have hun : u.length ≤ 31400 := by omega
          clear hf
          by_cases hkz : (k : Int) < z
          · go_wp2_with (fail)
            obtain ⟨m', hm'⟩ := feeds_lined HF.out (by omega)
            exact ⟨⟨k + 1, m', u ++ lineL, rfl, by go_num, by omega, hm', by simp [lineL]; omega, by trivial⟩, by simp [intOf]; omega⟩
          · go_wp2_with (fail)
            have HB := Lib.hid (feeds_behind HF.out)
            have HK := Lib.hid HR.out.2.2.2
            refine (head_one 116 _ _ wr).mono ?_
            rintro e w1 ⟨nv, vv, rfl, hn, hv, k1⟩
            have hT := HI.out.2.kept (HK.out.trans' k1)
            go_wp2_with (fail)
            refine (new_yes 200 nv vv _ _ w1 hn hv hT rdC newK).mono ?_
            rintro e w2 ⟨b1, hb1, rfl, r1, k2⟩
            have K2 := k1.trans' k2
            have Z0 : w.heap.size ≤ wr.heap.size := HK.out.size
            have Z1 : wr.heap.size ≤ b1 := Nat.le_trans k1.size hb1
            have HA := Lib.hid (And.intro r1 (HK.out.trans' K2))
            clear hn hv hT k1 k2 hb1 r1 K2
            go_wp2_with (fail)
            refine (head_none _ w2).mono ?_
            rintro e w3 ⟨nv, vv, rfl, hn, hv, k1⟩
            have hT := HI.out.2.kept (HA.out.2.trans' k1)
            go_wp2_with (fail)
            refine (new_yes 200 nv vv _ _ w3 hn hv hT rdO newO).mono ?_
            rintro e w4 ⟨b2, hb2, rfl, r2, k2⟩
            have K4 := k1.trans' k2
            have Z2 : w2.heap.size ≤ b2 := Nat.le_trans k1.size hb2
            have L1 : b1 < w2.heap.size := lt_of_block HA.out.1
            have HC := Lib.hid (And.intro (HA.out.1.kept K4 (by simp)) (And.intro r2 (HA.out.2.trans' K4)))
            have Z1' : w.heap.size ≤ b1 := by omega
            have Z2' : w.heap.size ≤ b2 := by omega
            have N12 : b1 ≠ b2 := by omega
            have HN := Lib.hid N12
            clear hn hv hT k1 k2 hb2 r2 K4 HA N12 Z0 Z1 Z2 L1
            go_wp2_with (fail)
            refine (write_as b1 (u ++ [13, 10, 98, 101, 104, 105, 110, 100]) rdC _ a 0 w4 HC.out.1 rdC_ok (by simp [rdC, rdNil]; omega) (write_ok rfl HB.out)).mono ?_
            rintro e w5 ⟨rfl, r1, k5⟩
            have HD := Lib.hid (And.intro r1 (And.intro (HC.out.2.1.kept k5 (by simpa using HN.out.symm)) (HC.out.2.2.new1 k5 Z1')))
            clear r1 k5 HC
            go_wp2_with (fail)
            refine (write_as b2 a rdO (rdO.addTold a.length) a 0 w5 HD.out.2.1 rdO_ok (by simp [rdO, rdNil]; omega) (write_ok rfl (feeds_openO a (by omega)))).mono ?_
            rintro e w6 ⟨rfl, r2, k6⟩
            have HE := Lib.hid (And.intro (HD.out.1.kept k6 (by simpa using HN.out)) (And.intro r2 (HD.out.2.2.new1 k6 Z2')))
            clear r2 k6 HD
            go_wp2_with (fail)
            refine (fixed_any w6 (HI.out.2.kept HE.out.2.2)).mono ?_
            rintro e w7 ⟨rfl, k7⟩
            have HG := Lib.hid (And.intro (HE.out.1.kept k7 (by simp)) (And.intro (HE.out.2.1.kept k7 (by simp)) (HE.out.2.2.trans' k7)))
            clear k7 HE
            go_wp2_with (fail)
            refine (done_any b1 _ w7 HG.out.1).mono ?_
            rintro e w8 ⟨rfl, rfl⟩
            rw [show doneF { rdL a.length k m with state := 11, rest := [98, 101, 104, 105, 110, 100] } = true from rfl]
            go_wp2_with (fail)
            refine (rest_any b1 _ w7 HG.out.1).mono ?_
            rintro e w8 ⟨rfl, rfl⟩
            rw [show restF { rdL a.length k m with state := 11, rest := [98, 101, 104, 105, 110, 100] } = [98, 101, 104, 105, 110, 100] from rfl]
            go_wp2_with (fail)
            refine (close_any b2 _ w7 HG.out.2.1).mono ?_
            rintro e w8 ⟨rfl, r8, k8⟩
            rw [show (closeF (rdO.addTold a.length)).2 = 0 from rfl]
            have HJ := Lib.hid (HG.out.2.2.new1 k8 Z2')
            go_wp2_with (fail)
            go_ret
            exact ⟨rfl, HJ.out⟩
end Go.Proofs.YtamihbcgiaeacaaDoor
