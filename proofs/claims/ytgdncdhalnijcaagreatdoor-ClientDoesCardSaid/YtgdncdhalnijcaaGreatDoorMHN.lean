/- Walks and lemmas on the program of this seat, used by its statements; each theorem bears its own conditions. -/
import Derived.Test.YtgdncdhalnijcaaGreatDoorMHL
import Derived.Test.YtgdncdhalnijcaaGreatDoorMHJ
import Derived.Handy
import Derived.Recover
import Derived.IntWalk
import Derived.Deep.CutRange
import Derived.OwnWalk
import Derived.Deep.AppendLies
import Derived.Deep.RegionLaw
import Derived.Deep.RegionHeld3
namespace Go.Proofs.YtgdncdhalnijcaaGreatDoor
open Go.RowKit
set_option linter.unusedVariables false
set_option linter.unusedSimpArgs false
set_option maxHeartbeats 8000000
set_option maxRecDepth 100000
/-! ### Parse -/
theorem parse_any (s : List UInt8) (w : World) (hs : s.length < 4294967281) (hM : ML w) (r : HR) (hr : parseF s = r) :
    Calls Tryz.prog 28 #[S s] w (ParsePost w r) := by
  have hs' : (s.length : Int) ≤ 4294967280 := by omega
  have HR := Lib.hid hr
  clear hr
  have a0 : Blk (((w.alloc (.cells #[I 0, nilV, nilV] HdT)).alloc (.cells #[I 0] IT)).alloc (.cells #[I 0] ET)) w.heap.size #[I 0, nilV, nilV] HdT := Blk.alloc (Blk.alloc (heap_new w _) _) _
  have a1 : Blk (((w.alloc (.cells #[I 0, nilV, nilV] HdT)).alloc (.cells #[I 0] IT)).alloc (.cells #[I 0] ET)) (w.heap.size + 1) #[I 0] IT := by
    have := heap_new (w.alloc (.cells #[I 0, nilV, nilV] HdT)) (.cells #[I 0] IT)
    rw [World.size_alloc] at this
    exact Blk.alloc this _
  have a2 : Blk (((w.alloc (.cells #[I 0, nilV, nilV] HdT)).alloc (.cells #[I 0] IT)).alloc (.cells #[I 0] ET)) (w.heap.size + 1 + 1) #[I 0] ET := by
    have := heap_new ((w.alloc (.cells #[I 0, nilV, nilV] HdT)).alloc (.cells #[I 0] IT)) (.cells #[I 0] ET)
    rw [World.size_alloc, World.size_alloc] at this
    exact this
  have H0 := Lib.hid (And.intro a0 (And.intro a1 a2))
  have HML := Lib.hid hM
  clear a0 a1 a2 hM
  go_enter_defers Tryz.func28, Tryz.ntmps28
  go_wp2_with (fail)
  go_loopw [5, 6, 7, 8, 9, 10, 11] (fun fv _ _ _ _ _ _ wr => ∃ (n f : Nat) (h : Hd) (v1 v2 : Value), fv = .bool (decide (h.st = 0)) ∧ n ≤ s.length ∧ n ≤ 2048 ∧ 3000 ≤ f + n ∧ h.ns.length ≤ 32 ∧ h.vs.length = h.ns.length ∧ runF s f h n = r ∧
      PA (w.heap.size + 1 + 1 + 1) wr w.heap.size #[I h.st, v1, v2] v1 h.ns v2 h.vs ∧ Blk wr (w.heap.size + 1) #[I n] IT ∧ Blk wr (w.heap.size + 1 + 1) #[I 0] ET ∧ Kept [] w wr) (fun _ _ _ _ _ _ _ wr => 4096 - (intOf ((wr.cell? ⟨w.heap.size + 1, 0, none⟩).getD undef)).toNat)
  case atStart =>
    exact ⟨0, 3000, zeroH, nilV, nilV, rfl, by omega, by omega, by omega, by simp [zeroH], rfl, HR.out, ⟨H0.out.1, OwnT.nil _ _, OwnT.nil _ _, (fun g hg => by cases hg), (by omega)⟩, H0.out.2.1, H0.out.2.2, (((Kept.refl _ _).alloc _).alloc _).alloc _⟩
  case round =>
    clear H0
    obtain ⟨n, f, h, v1, v2, rfl, hn, hn2, hfn, hl, hll, hrun, hpa, hb1, hb2, hkw⟩ := hrel
    obtain ⟨p1, q1, rfl⟩ := hpa.o1.form
    obtain ⟨p2, q2, rfl⟩ := hpa.o2.form
    have hnl' : (h.ns.length : Int) ≤ 32 := by omega
    have hvl' : (h.vs.length : Int) ≤ 32 := by omega
    have HK := Lib.hid (And.intro hpa (And.intro hb1 (And.intro hb2 hkw)))
    have HMR := Lib.hid (HML.out.kept hkw)
    clear hpa hb1 hb2 hkw
    obtain ⟨c00, c01, c02⟩ := HK.out.1.cells
    have f00 := HK.out.1.free 0
    have f01 := HK.out.1.free 1
    have f02 := HK.out.1.free 2
    have c10 := cell_at HK.out.2.1 0
    have f10 := free_at HK.out.2.1 0
    have c20 := cell_at HK.out.2.2.1 0
    have f20 := free_at HK.out.2.2.1 0
    have hlt0 : w.heap.size < _ := HK.out.1.hlt
    have hlt1 : w.heap.size + 1 < _ := lt_of_block HK.out.2.1
    have hlt2 : w.heap.size + 1 + 1 < _ := lt_of_block HK.out.2.2.1
    have hn' : (n : Int) ≤ s.length := by omega
    have hn2' : (n : Int) ≤ 2048 := by omega
    obtain ⟨f', rfl⟩ : ∃ f', f = f' + 1 := ⟨f - 1, by omega⟩
    rw [runF_succ] at hrun
    have HL := Lib.hid (And.intro hl (And.intro hll (And.intro hrun hfn)))
    clear hl hll hrun hfn
    obtain ⟨T, hT⟩ : ∃ T, s.drop n = T := ⟨_, rfl⟩
    have hTl : T.length = s.length - n := by rw [← hT, List.length_drop]
    have HTL := Lib.hid hTl
    have hTb : (T.length : Int) ≤ 4294967280 := by omega
    clear hTl
    cases hc : crlf T with
    | none =>
      have HC : Hid (Calls Tryz.prog 51 #[S T, S [13, 10]] wr fun e w' => e = .returned (I (-1)) ∧ wr = w') := Lib.hid (index_any T wr (by omega) HMR.out _ (by rw [hc]))
      obtain ⟨L, hL⟩ : ∃ L, lenCR T = L := ⟨_, rfl⟩
      have HS := Lib.hid (suffix_any T wr (by omega) L hL)
      have HF : Hid (r = .fail (if L ≤ 256 ∧ s.length < 2048 then 172 else 171)) := Lib.hid (by rw [← HL.out.2.2.1, turn_none (by rw [hT]; exact hc), hT, hL])
      clear hc hL
      go_wp2_with (fail)
      refine HC.out.mono ?_
      rintro e w1 ⟨rfl, rfl⟩
      go_wp2_with (fail)
      refine HS.out.mono ?_
      rintro e w1 ⟨t, rfl, ht, rfl⟩
      by_cases hL6 : L ≤ 256
      · have hL6' : (t.length : Int) ≤ 256 := by omega
        by_cases h48 : s.length < 2048
        · have h48' : (s.length : Int) < 2048 := by omega
          have HF2 : Hid (r = .fail 172) := Lib.hid (by rw [HF.out, if_pos ⟨hL6, h48⟩])
          clear ht
          go_wp2_with (fail)
          refine (must_yes 171 wr).mono ?_
          rintro e w9 ⟨rfl, rfl⟩
          go_wp2_with (fail)
          refine (must_no 172 wr).mono ?_
          rintro e w9 ⟨rfl, rfl⟩
          go_wp2_with (fail)
          exact parse_fail HK.out.1.blk HK.out.2.1 HK.out.2.2.1 HK.out.2.2.2 HF2.out rfl rfl rfl
        · have h48' : decide ((s.length : Int) < 2048) = false := decide_eq_false (by omega)
          have HF2 : Hid (r = .fail 171) := Lib.hid (by rw [HF.out, if_neg (fun x => h48 x.2)])
          clear ht
          go_wp2_with (fail)
          refine (must_no 171 wr).mono ?_
          rintro e w9 ⟨rfl, rfl⟩
          go_wp2_with (fail)
          exact parse_fail HK.out.1.blk HK.out.2.1 HK.out.2.2.1 HK.out.2.2.2 HF2.out rfl rfl rfl
      · have hL6' : ¬ (t.length : Int) ≤ 256 := by omega
        have HF2 : Hid (r = .fail 171) := Lib.hid (by rw [HF.out, if_neg (fun x => hL6 x.1)])
        clear ht
        go_wp2_with (fail)
        refine (must_no 171 wr).mono ?_
        rintro e w9 ⟨rfl, rfl⟩
        go_wp2_with (fail)
        exact parse_fail HK.out.1.blk HK.out.2.1 HK.out.2.2.1 HK.out.2.2.2 HF2.out rfl rfl rfl
    | some i =>
      have HC : Hid (Calls Tryz.prog 51 #[S T, S [13, 10]] wr fun e w' => e = .returned (I i) ∧ wr = w') := Lib.hid (index_any T wr (by omega) HMR.out _ (by rw [hc]))
      have hsp := (crlf_spec hc).1
      have hi2 : (i : Int) + 2 ≤ T.length := by omega
      obtain ⟨m, hm⟩ : ∃ m : Nat, n + i + 2 = m := ⟨_, rfl⟩
      have hms : m ≤ s.length := by have := HTL.out; omega
      have hmI : (n : Int) + (i : Int) + 2 = (m : Int) := by omega
      have hmI2 : (n : Int) + ((i : Int) + 2) = (m : Int) := by omega
      obtain ⟨l, hlx⟩ : ∃ l, T.take i = l := ⟨_, rfl⟩
      have hll : l.length = i := by rw [← hlx]; simp; omega
      have HT : Hid (turnF s h n = if 256 < i ∨ 2048 < m then .fail 171
        else if h.st = 0 then (if statF l = 0 then .fail 170 else .on ⟨statF l, h.ns, h.vs⟩ m)
        else if i = 0 then .done h (n + 2) else fieldF l h m) := Lib.hid (by rw [turn_some (by rw [hT]; exact hc), hT, hlx, hm])
      have HX := Lib.hid (And.intro hm (And.intro hll hsp))
      clear hc hsp hm hll
      by_cases hbig : 256 < i
      · have HF : Hid (r = .fail 171) := Lib.hid (by rw [← HL.out.2.2.1, HT.out, if_pos (.inl hbig)])
        have hbig' : ¬ (i : Int) ≤ 256 := by omega
        go_wp2_with (fail)
        refine HC.out.mono ?_
        rintro e w1 ⟨rfl, rfl⟩
        go_wp2_with (fail)
        refine (must_no 171 wr).mono ?_
        rintro e w9 ⟨rfl, rfl⟩
        go_wp2_with (fail)
        exact parse_fail HK.out.1.blk HK.out.2.1 HK.out.2.2.1 HK.out.2.2.2 HF.out rfl rfl rfl
      have hbig' : (i : Int) ≤ 256 := by omega
      by_cases hfar : 2048 < m
      · have HF : Hid (r = .fail 171) := Lib.hid (by rw [← HL.out.2.2.1, HT.out, if_pos (.inr hfar)])
        have hfar' : decide ((m : Int) ≤ 2048) = false := decide_eq_false (by omega)
        go_wp2_with (fail)
        refine HC.out.mono ?_
        rintro e w1 ⟨rfl, rfl⟩
        go_wp2_with (fail)
        refine (must_no 171 wr).mono ?_
        rintro e w9 ⟨rfl, rfl⟩
        go_wp2_with (fail)
        exact parse_fail HK.out.1.blk HK.out.2.1 HK.out.2.2.1 HK.out.2.2.2 HF.out rfl rfl rfl
      have hfar' : (m : Int) ≤ 2048 := by omega
      have HT2 := HT.out
      rw [if_neg (fun y => y.elim hbig hfar)] at HT2
      replace HT := Lib.hid HT2
      clear HT2
      have hlb : (l.length : Int) ≤ 256 := by have := HX.out.2.1; omega
      obtain ⟨W, hW⟩ : ∃ W, wr.setCell ⟨w.heap.size + 1, 0, none⟩ (I m) = W := ⟨_, rfl⟩
      have HW : Hid (PA (w.heap.size + 1 + 1 + 1) W w.heap.size #[I h.st, .slice p1 h.ns.length q1, .slice p2 h.vs.length q2] (.slice p1 h.ns.length q1) h.ns (.slice p2 h.vs.length q2) h.vs ∧ Blk W (w.heap.size + 1) #[I m] IT ∧ Blk W (w.heap.size + 1 + 1) #[I 0] ET ∧ Kept [] w W) := Lib.hid (by
        rw [← hW]
        exact ⟨HK.out.1.other (by omega) (by omega), HK.out.2.1.set 0 _, HK.out.2.2.1.other _ _ _ (by omega), HK.out.2.2.2.setCell (.inr (by simp)) _⟩)
      have HMW := Lib.hid (HML.out.kept HW.out.2.2.2)
      go_wp2_with (fail)
      refine HC.out.mono ?_
      rintro e w1 ⟨rfl, rfl⟩
      go_wp2_with (fail)
      refine (must_yes 171 wr).mono ?_
      rintro e w1 ⟨rfl, rfl⟩
      go_upto_region 16 with (fail)
      clear hW
      clear c00 c01 c02 f00 f01 f02 c10 f10 c20 f20 hlt0 hlt1 hlt2
      obtain ⟨c00, c01, c02⟩ := HW.out.1.cells
      have f00 := HW.out.1.free 0
      have f01 := HW.out.1.free 1
      have f02 := HW.out.1.free 2
      have c10 := cell_at HW.out.2.1 0
      have f10 := free_at HW.out.2.1 0
      have c20 := cell_at HW.out.2.2.1 0
      have f20 := free_at HW.out.2.2.1 0
      have hlt0 : w.heap.size < _ := HW.out.1.hlt
      have hlt1 : w.heap.size + 1 < _ := lt_of_block HW.out.2.1
      have hlt2 : w.heap.size + 1 + 1 < _ := lt_of_block HW.out.2.2.1
      by_cases hst : h.st = 0
      · have hst' : decide (h.st = 0) = true := decide_eq_true hst
        have HT2 := HT.out
        rw [if_pos hst] at HT2
        obtain ⟨q, hq⟩ : ∃ q, statF l = q := ⟨_, rfl⟩
        rw [hq] at HT2
        replace HT := Lib.hid HT2
        have HSt := Lib.hid (status_any l W (by omega) q hq)
        clear HT2 hq
        rw [hst']
        go_wp2_with (fail)
        refine HSt.out.mono ?_
        rintro e w1 (⟨hq0, rfl, rfl⟩ | ⟨hq0, rfl, rfl⟩)
        · have HF : Hid (runF s f' ⟨q, h.ns, h.vs⟩ m = r) := Lib.hid (by rw [← HL.out.2.2.1, HT.out, if_neg hq0])
          have HQ0 := Lib.hid hq0
          clear hq0 hst hst'
          go_wp2_with (fail)
          go_roundw
          case rel => exact ⟨m, f', ⟨q, h.ns, h.vs⟩, _, _, by have := HQ0.out; simp [this], hms, by omega, by have := HL.out.2.2.2; have := HX.out.1; omega, HL.out.1, HL.out.2.1, HF.out, HW.out.1.set 0 _, HW.out.2.1.other _ _ _ (by omega), HW.out.2.2.1.other _ _ _ (by omega), HW.out.2.2.2.setCell (.inr (Nat.le_refl _)) _⟩
          case measure =>
            have e1 := cell_at (HW.out.2.1.other w.heap.size 0 (I q) (by omega)) 0
            have e2 := cell_at HK.out.2.1 0
            rw [e1, e2]
            have := HX.out.1
            simp [intOf]; omega
        · have HF : Hid (r = .fail 170) := Lib.hid (by rw [← HL.out.2.2.1, HT.out, if_pos hq0])
          clear hq0
          go_wp2_with (fail)
          exact parse_fail HW.out.1.blk HW.out.2.1 HW.out.2.2.1 HW.out.2.2.2 HF.out rfl rfl rfl
      have hst' : decide (h.st = 0) = false := decide_eq_false hst
      have HT2 := HT.out
      rw [if_neg hst] at HT2
      replace HT := Lib.hid HT2
      clear HT2
      rw [hst']
      by_cases hi0 : i = 0
      · have HF : Hid (r = .done h m) := Lib.hid (by rw [← HL.out.2.2.1, HT.out, if_pos hi0]; simp; have := HX.out.1; omega)
        have hln : l = [] := List.eq_nil_of_length_eq_zero (by have := HX.out.2.1; omega)
        subst hln
        clear hi0 hst hst'
        go_wp2_with (fail)
        refine parse_done (n := m) (v1 := .slice p1 h.ns.length q1) (v2 := .slice p2 h.vs.length q2) ?_ ?_ ?_ ?_ HF.out rfl rfl rfl
        · exact (((HW.out.1.set 0 _).set 1 _).set 2 _).other (by omega) (by omega) |>.other (by omega) (by omega)
        · exact ((((HW.out.2.1.other _ _ _ (by omega)).other _ _ _ (by omega)).other _ _ _ (by omega)).set 0 _).other _ _ _ (by omega)
        · exact ((((HW.out.2.2.1.other _ _ _ (by omega)).other _ _ _ (by omega)).other _ _ _ (by omega)).other _ _ _ (by omega)).set 0 _
        · exact ((((HW.out.2.2.2.setCell (.inr (by dsimp only; omega)) _).setCell (.inr (by dsimp only; omega)) _).setCell (.inr (by dsimp only; omega)) _).setCell (.inr (by dsimp only; omega)) _).setCell (.inr (by dsimp only; omega)) _
      have HT2 := HT.out
      rw [if_neg hi0] at HT2
      replace HT := Lib.hid HT2
      clear HT2
      have hle2 : l.isEmpty = false := by cases l with
        | nil => exact absurd HX.out.2.1.symm hi0
        | cons => rfl
      have hle : (l == []) = false := by rw [beq_eq_false_iff_ne]; intro e; rw [e] at hle2; cases hle2
      have HCut := Lib.hid (cut_any l W (by omega) HMW.out)
      go_wp2_with (fail)
      refine HCut.out.mono ?_
      rintro e w1 ⟨⟨na, vb, rfl, hcut⟩, k1⟩
      have H1 : Hid (PA (w.heap.size + 1 + 1 + 1) w1 w.heap.size #[I h.st, .slice p1 h.ns.length q1, .slice p2 h.vs.length q2] (.slice p1 h.ns.length q1) h.ns (.slice p2 h.vs.length q2) h.vs ∧ Blk w1 (w.heap.size + 1) #[I m] IT ∧ Blk w1 (w.heap.size + 1 + 1) #[I 0] ET ∧ Kept [] w w1) := Lib.hid ⟨HW.out.1.kept k1, HW.out.2.1.kept k1 (by simp), HW.out.2.2.1.kept k1 (by simp), HW.out.2.2.2.trans' k1⟩
      clear k1
      clear c00 c01 c02 f00 f01 f02 c10 f10 c20 f20 hlt0 hlt1 hlt2
      obtain ⟨c00, c01, c02⟩ := H1.out.1.cells
      have f00 := H1.out.1.free 0
      have f01 := H1.out.1.free 1
      have f02 := H1.out.1.free 2
      have c10 := cell_at H1.out.2.1 0
      have f10 := free_at H1.out.2.1 0
      have c20 := cell_at H1.out.2.2.1 0
      have f20 := free_at H1.out.2.2.1 0
      have hlt0 : w.heap.size < _ := H1.out.1.hlt
      have hlt1 : w.heap.size + 1 < _ := lt_of_block H1.out.2.1
      have hlt2 : w.heap.size + 1 + 1 < _ := lt_of_block H1.out.2.2.1
      have HCU := Lib.hid hcut
      clear hcut
      by_cases hke : (nameL l).length = l.length
      · have HF : Hid (r = .fail 170) := Lib.hid (by rw [← HL.out.2.2.1, HT.out]; unfold fieldF; rw [if_pos (.inl hke)])
        have hdk : decide ((nameL l).length ≠ l.length) = false := decide_eq_false (fun x => x hke)
        rw [hdk]
        clear hdk hke
        go_wp2_with (fail)
        refine (must_no 170 w1).mono ?_
        rintro e w9 ⟨rfl, rfl⟩
        go_wp2_with (fail)
        exact parse_fail H1.out.1.blk H1.out.2.1 H1.out.2.2.1 H1.out.2.2.2 HF.out rfl rfl rfl
      have hdk : decide ((nameL l).length ≠ l.length) = true := decide_eq_true hke
      rw [hdk]
      obtain ⟨hna, hvb⟩ := HCU.out hke
      have hnal : na.length ≤ 256 := by rw [hna]; have := takeWhile_le (· != 58) l; unfold nameL; omega
      have hvbl : vb.length ≤ 256 := by rw [hvb]; simp; omega
      obtain ⟨b1, hb1⟩ : ∃ b, tokB na = b := ⟨_, rfl⟩
      obtain ⟨b2, hb2⟩ : ∃ b, textB vb = b := ⟨_, rfl⟩
      have HFD : Hid (fieldF l h m = if b1 = false ∨ b2 = false then .fail 170 else if 32 ≤ h.ns.length then .fail 171 else .on ⟨h.st, h.ns ++ [lowL na], h.vs ++ [trimF vb]⟩ m) := Lib.hid (by
        unfold fieldF
        rw [← hvb, ← hna, hb1, hb2]
        by_cases hb : b1 = false ∨ b2 = false
        · rw [if_pos (.inr hb), if_pos hb]
        · rw [if_neg hb, if_neg (fun y => y.elim (fun z => hke (by rw [hna] at z; exact z)) hb)])
      have HTk : Hid (Calls Tryz.prog 56 #[S na] w1 fun e w' => e = .returned (.bool b1) ∧ w1 = w') := Lib.hid (by rw [← hb1]; exact token_any na w1 (by omega))
      have HTx : Hid (Calls Tryz.prog 57 #[S vb] w1 fun e w' => e = .returned (.bool b2) ∧ w1 = w') := Lib.hid (by rw [← hb2]; exact text_any vb w1 (by omega))
      have hstF := Lib.hid hst'
      clear hdk hke hna hvb hb1 hb2 hst hst' hi0
      have hnal' : (na.length : Int) ≤ 256 := by omega
      have hvbl' : (vb.length : Int) ≤ 256 := by omega
      cases b1 with
      | false =>
        have HF : Hid (r = .fail 170) := Lib.hid (by rw [← HL.out.2.2.1, HT.out, HFD.out]; rfl)
        go_wp2_with (fail)
        refine HTk.out.mono ?_
        rintro e w9 ⟨rfl, rfl⟩
        go_wp2_with (fail)
        refine (must_no 170 w1).mono ?_
        rintro e w9 ⟨rfl, rfl⟩
        go_wp2_with (fail)
        exact parse_fail H1.out.1.blk H1.out.2.1 H1.out.2.2.1 H1.out.2.2.2 HF.out rfl rfl rfl
      | true =>
      cases b2 with
      | false =>
        have HF : Hid (r = .fail 170) := Lib.hid (by rw [← HL.out.2.2.1, HT.out, HFD.out]; rfl)
        go_wp2_with (fail)
        refine HTk.out.mono ?_
        rintro e w9 ⟨rfl, rfl⟩
        go_wp2_with (fail)
        refine HTx.out.mono ?_
        rintro e w9 ⟨rfl, rfl⟩
        go_wp2_with (fail)
        refine (must_no 170 w1).mono ?_
        rintro e w9 ⟨rfl, rfl⟩
        go_wp2_with (fail)
        exact parse_fail H1.out.1.blk H1.out.2.1 H1.out.2.2.1 H1.out.2.2.2 HF.out rfl rfl rfl
      | true =>
      go_wp2_with (fail)
      refine HTk.out.mono ?_
      rintro e w9 ⟨rfl, rfl⟩
      go_wp2_with (fail)
      refine HTx.out.mono ?_
      rintro e w9 ⟨rfl, rfl⟩
      go_wp2_with (fail)
      refine (must_yes 170 w1).mono ?_
      rintro e w9 ⟨rfl, rfl⟩
      by_cases h32 : 32 ≤ h.ns.length
      · have HF : Hid (r = .fail 171) := Lib.hid (by rw [← HL.out.2.2.1, HT.out, HFD.out, if_neg (by simp), if_pos h32])
        have h32' : decide ((h.ns.length : Int) < 32) = false := decide_eq_false (by omega)
        go_wp2_with (fail)
        refine (must_no 171 w1).mono ?_
        rintro e w9 ⟨rfl, rfl⟩
        go_wp2_with (fail)
        exact parse_fail H1.out.1.blk H1.out.2.1 H1.out.2.2.1 H1.out.2.2.2 HF.out rfl rfl rfl
      have h32' : (h.ns.length : Int) < 32 := by omega
      have HF : Hid (runF s f' ⟨h.st, h.ns ++ [lowL na], h.vs ++ [trimF vb]⟩ m = r) := Lib.hid (by rw [← HL.out.2.2.1, HT.out, HFD.out, if_neg (by simp), if_neg h32])
      obtain ⟨y, hy⟩ : ∃ y, lowL na = y := ⟨_, rfl⟩
      obtain ⟨z, hz⟩ : ∃ z, trimF vb = z := ⟨_, rfl⟩
      have HLo : Hid (∀ w, Calls Tryz.prog 58 #[S na] w fun e w' => e = .returned (S y) ∧ Kept [] w w') := Lib.hid fun w => by rw [← hy]; exact lower_any _ w (by omega)
      have HTr : Hid (∀ w, Calls Tryz.prog 59 #[S vb, S [32, 9]] w fun e w' => e = .returned (S z) ∧ Kept [] w w') := Lib.hid fun w => by rw [← hz]; exact trim_any _ w (by omega)
      rw [hy, hz] at HF
      have HV2 : Hid (h.ns.length < 32 ∧ h.vs.length < 32) := Lib.hid ⟨by omega, by have := HL.out.2.1; omega⟩
      clear hy hz
      obtain ⟨i0, hi, hz0, hz1, hz2⟩ := info_parts str_info
      go_wp2_with (fail)
      refine (must_yes 171 w1).mono ?_
      rintro e w9 ⟨rfl, rfl⟩
      go_upto_region 15 with (fail)
      refine wp_region_noPanic ?_
      go_region_law (first
        | (refine step_append_lies _ (by rfl) (.tmp 69) (.tmp 72) 51 (by rfl) (w.heap.size + 1 + 1 + 1) 9 i0 (.string ⟨#[]⟩) 1 16 Tryz.underlying51 hi hz0 hz1 hz2 rfl (by decide) (.slice p1 h.ns.length q1) h.ns.length (h.ns.map S) (by simp [Act.eval, Act.put]) (by exact HP5.out.1.o1) ⟨w5.heap.size, 0, none⟩ 1 1 [S y] (by simp [Act.eval, Act.put]) rfl (by exact World.news_of_block (heap_new w5 _)) (S_one [y]) (by decide) (by have := HV2.out.1; unfold maxLen; omega) (by have := HV2.out.1; omega) (by have := lt_of_block HP5.out.2.2.1; omega) _ rfl ?_
           intro g cap wa own1 gr1 hat hlt
           have HA := Lib.hid (And.intro (HP5.out.1.app1 own1 gr1 hat) (And.intro (HP5.out.2.1.grown gr1 (fun e => by have := (HP5.out.1.o1.lt _ e).1; omega)) (And.intro (HP5.out.2.2.1.grown gr1 (fun e => by have := (HP5.out.1.o1.lt _ e).1; omega)) (HP5.out.2.2.2.grown gr1 (fun q e => by have := (HP5.out.1.o1.lt q e).1; omega)))))
           obtain ⟨_, za1, za2⟩ := HA.out.1.cells
           clear own1 gr1 hat hlt)
        | (refine step_append_lies _ (by rfl) (.tmp 75) (.tmp 78) 51 (by rfl) (w.heap.size + 1 + 1 + 1) 9 i0 (.string ⟨#[]⟩) 1 16 Tryz.underlying51 hi hz0 hz1 hz2 rfl (by decide) (.slice p2 h.vs.length q2) h.vs.length (h.vs.map S) (by simp [Act.eval, Act.put]) (by exact HP7.out.1.o2) ⟨w6.heap.size, 0, none⟩ 1 1 [S z] (by simp [Act.eval, Act.put]) rfl (by exact World.news_of_block (heap_new w6 _)) (S_one [z]) (by decide) (by have := HV2.out.2; unfold maxLen; omega) (by have := HV2.out.2; omega) (by have := lt_of_block HP7.out.2.2.1; omega) _ rfl ?_
           intro g2 cap2 wb own2 gr2 hat2 hlt9
           have HB := Lib.hid (And.intro (HP7.out.1.app2 own2 gr2 hat2) (And.intro (HP7.out.2.1.grown gr2 (fun e => by have := (HP7.out.1.o2.lt _ e).1; omega)) (And.intro (HP7.out.2.2.1.grown gr2 (fun e => by have := (HP7.out.1.o2.lt _ e).1; omega)) (HP7.out.2.2.2.grown gr2 (fun q e => by have := (HP7.out.1.o2.lt q e).1; omega)))))
           obtain ⟨_, zb1, zb2⟩ := HB.out.1.cells
           have zf1 := HB.out.1.free 1
           have zf2 := HB.out.1.free 2
           clear own2 gr2 hat2 hlt9)
        | (go_simp
           go_at_call 58
           (with_reducible refine (HLo.out _).mono ?_)
           rintro r w5 ⟨rfl, k5⟩
           have HP4 := Lib.hid (And.intro ((H1.out.1.kept ((Kept.refl [] w1).drew)).kept k5) (And.intro ((H1.out.2.1.kept ((Kept.refl [] w1).drew) (by simp)).kept k5 (by simp)) (And.intro ((H1.out.2.2.1.kept ((Kept.refl [] w1).drew) (by simp)).kept k5 (by simp)) ((H1.out.2.2.2.drew).trans' k5))))
           have HP5 := Lib.hid (And.intro (HP4.out.1.kept ((Kept.refl [] w5).alloc (.cells #[S y] 9))) (And.intro (HP4.out.2.1.alloc (.cells #[S y] 9)) (And.intro (HP4.out.2.2.1.alloc (.cells #[S y] 9)) (HP4.out.2.2.2.alloc (.cells #[S y] 9)))))
           obtain ⟨_, zc1, zc2⟩ := HP4.out.1.cells
           obtain ⟨_, zd1, zd2⟩ := HP5.out.1.cells
           have zl := HP4.out.1.hlt
           clear k5)
        | (go_simp
           go_at_call 59
           (with_reducible refine (HTr.out _).mono ?_)
           rintro r w6 ⟨rfl, k6⟩
           have HP6 := Lib.hid (And.intro (HA.out.1.kept k6) (And.intro (HA.out.2.1.kept k6 (by simp)) (And.intro (HA.out.2.2.1.kept k6 (by simp)) (HA.out.2.2.2.trans' k6))))
           have HP7 := Lib.hid (And.intro (HP6.out.1.kept ((Kept.refl [] w6).alloc (.cells #[S z] 9))) (And.intro (HP6.out.2.1.alloc (.cells #[S z] 9)) (And.intro (HP6.out.2.2.1.alloc (.cells #[S z] 9)) (HP6.out.2.2.2.alloc (.cells #[S z] 9)))))
           obtain ⟨_, ze1, ze2⟩ := HP6.out.1.cells
           obtain ⟨_, zg1, zg2⟩ := HP7.out.1.cells
           have zl6 := HP6.out.1.hlt
           clear k6))
      all_goals
        refine NoPanic.normal ?_
        have HZ := Lib.hid (And.intro ((HB.out.1.set 1 (.slice (some ⟨g, 0, none⟩) (h.ns.length + 1) cap)).set 2 (.slice (some ⟨g2, 0, none⟩) (h.vs.length + 1) cap2)) (And.intro ((HB.out.2.1.other w.heap.size 1 (.slice (some ⟨g, 0, none⟩) (h.ns.length + 1) cap) (by omega)).other w.heap.size 2 (.slice (some ⟨g2, 0, none⟩) (h.vs.length + 1) cap2) (by omega)) (And.intro ((HB.out.2.2.1.other w.heap.size 1 (.slice (some ⟨g, 0, none⟩) (h.ns.length + 1) cap) (by omega)).other w.heap.size 2 (.slice (some ⟨g2, 0, none⟩) (h.vs.length + 1) cap2) (by omega)) ((HB.out.2.2.2.setCell (p := ⟨w.heap.size, 1, none⟩) (.inr (Nat.le_refl _)) (.slice (some ⟨g, 0, none⟩) (h.ns.length + 1) cap)).setCell (p := ⟨w.heap.size, 2, none⟩) (.inr (Nat.le_refl _)) (.slice (some ⟨g2, 0, none⟩) (h.vs.length + 1) cap2)))))
        go_wp2
        go_roundw
        case rel => exact ⟨m, f', ⟨h.st, h.ns ++ [y], h.vs ++ [z]⟩, _, _, by rw [hstF.out], hms, by omega, by have := HL.out.2.2.2; have := HX.out.1; omega, (by have := HV2.out.1; simp; omega), (by have := HL.out.2.1; simp; omega), HF.out, HZ.out.1, HZ.out.2.1, HZ.out.2.2.1, HZ.out.2.2.2⟩
        case measure => (
          have e1 := cell_at HZ.out.2.1 0
          have e2 := cell_at HK.out.2.1 0
          rw [e1, e2]
          have := HX.out.1
          simp [intOf]; omega)
end Go.Proofs.YtgdncdhalnijcaaGreatDoor
