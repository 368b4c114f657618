/- Walks and lemmas on the program of this seat, used by its statements; each theorem bears its own conditions. -/
import Derived.Test.YthooohempokchaaDoorLeafD
import Derived.Test.YthooohempokchaaDoorPureC
import Derived.IntWalk
namespace Go.Proofs.YthooohempokchaaDoor
open Go.RowKit
set_option linter.unusedVariables false
set_option linter.unusedSimpArgs false
/-! ### words.Unescape -/
theorem hasprefix_any (l p : List UInt8) (b : Bool) (w : World) (h : Lib.hasPrefix l p = b) : Calls Tryd.prog 32 #[S l, S p] w fun e w' => e = .returned (.bool b) ∧ w = w' :=
  (Tryd.strings_HasPrefix ⟨l.toArray⟩ ⟨p.toArray⟩ w).mono fun e w' ⟨h1, h2⟩ => ⟨by rw [h1]; exact ret_B h, h2.symm⟩
theorem digit_at (c : UInt8) (d : Int) (w : World) (h : WX.digN c = d) : Calls Tryd.prog 33 #[.int .u8 (c.toNat : Int)] w fun e w' => e = .returned (I d) ∧ w = w' := h ▸ digit_any c w
theorem digN_bd (c : UInt8) : -1 ≤ WX.digN c ∧ WX.digN c ≤ 15 := by unfold WX.digN; (repeat' split) <;> omega
set_option maxHeartbeats 4000000 in
set_option maxRecDepth 100000 in
theorem unescape_any (l : List UInt8) (w : World) (hl : l.length ≤ 35184372088832) :
    Calls Tryd.prog 20 #[S l] w fun e w' => e = .returned (.tuple #[S (WX.unescF l).1, I (WX.unescF l).2]) ∧ Kept [] w w' := by
  have hl' : (l.length : Int) ≤ 35184372088832 := by omega
  go_enter Tryd.func20, Tryd.ntmps20
  go_wp2_with (fail)
  go_loopw [5] (fun r wr => ∃ (t acc : List UInt8), r = S t ∧ t.length + acc.length ≤ l.length ∧ Bld w.heap.size w.heap.size acc wr ∧ Below w.heap.size w wr ∧ (WX.say t).map (acc ++ ·) = WX.say l) (fun r _ => match r with | .string s => s.size | _ => 0)
  case atStart =>
    refine ⟨l, [], rfl, by simp, Lib.IsBuilderF.of (Lib.fresh_isBuilder _ _ w), (Below.refl _ w).alloc (Nat.le_refl _) _, by cases WX.say l <;> rfl⟩
  case round =>
    obtain ⟨t, acc, rfl, ht, hb, hk, he⟩ := hrel
    have Zs : w.heap.size ≤ wr.heap.size := hk.size
    have HK := Lib.hid (And.intro hb (And.intro hk he))
    clear hb hk he
    have htl : (t.length : Int) ≤ 35184372088832 := by omega
    by_cases hn : t = []
    · have e1 : t.isEmpty = true := by rw [hn]; rfl
      have hsay : WX.say l = some acc := by rw [← HK.out.2.2, hn]; simp [WX.say_nil]
      have HS := Lib.hid hsay
      clear hsay hn
      go_wp2_with (fail)
      refine (bstr w.heap.size w.heap.size acc wr HK.out.1 (by omega)).mono ?_
      rintro e w3 ⟨rfl, b1, k1⟩
      go_wp2_with (fail)
      refine (escape_any acc w3 (by omega)).mono ?_
      rintro e w4 ⟨rfl, k2⟩
      have K := (Kept.of_below0 (HK.out.2.1.trans k1.bel)).trans' k2
      by_cases hq : WX.escL acc = l
      · have hb : (WX.escL acc == l) = true := by simpa using hq
        have hf := Lib.hid (WX.unescF_yes HS.out hq)
        clear hq
        go_wp2
        go_ret2
        exact ⟨by rw [hf.out]; rfl, K⟩
      · have hb : (WX.escL acc == l) = false := by simpa using hq
        have hf := Lib.hid (WX.unescF_no HS.out hq)
        clear hq
        go_wp2
        go_ret2
        exact ⟨by rw [hf.out]; rfl, K⟩
    · have e1 : t.isEmpty = false := by cases t; exact absurd rfl hn; rfl
      have hpos : (0 : Int) < t.length := by have := List.length_pos_iff.2 hn; omega
      have HN := Lib.hid hn
      clear hn
      have hc := byteAt_le t 0
      obtain ⟨hc0, hc1⟩ := hc
      by_cases h92 : ((byteAt t 0).toNat : Int) = 92
      · have hb92 : (((byteAt t 0).toNat : Int) == 92) = true := by simpa using h92
        have h0 : byteAt t 0 = 92 := by rw [← UInt8.toNat_inj]; have : (92 : UInt8).toNat = 92 := rfl; omega
        have H0 := Lib.hid h0
        clear h92 h0
        cases hp1 : Lib.hasPrefix t [92, 92] with
        | true =>
          have HS := Lib.hid (WX.say_t2 hp1)
          have HP := Lib.hid hp1
          have hln : (2 : Int) ≤ t.length := by obtain ⟨s, hs⟩ := WX.pre2 hp1; rw [hs]; simp; omega
          clear hp1
          go_wp2_with (fail)
          refine (hasprefix_any t [92, 92] true _ HP.out).mono ?_
          rintro e w3 ⟨rfl, rfl⟩
          go_wp2_with (fail)
          refine (wbyte w.heap.size w.heap.size acc 92 wr HK.out.1 (by omega) (by omega)).mono ?_
          rintro e w3 ⟨rfl, b1, k1⟩
          go_wp2
          go_roundw
          case rel =>
            refine ⟨_, acc ++ [92], rfl, ?_, b1, HK.out.2.1.trans k1.bel, ?_⟩
            · first | (rw [List.length_append]; simp; omega) | (simp; omega)
            · rw [← HK.out.2.2, HS.out]
              first | (simp only [List.drop_one, Option.map_map]; congr 1; funext x; simp) | (simp only [Option.map_map]; congr 1; funext x; simp) | (cases WX.say (List.drop 2 t) <;> simp)
          case measure => simp [ByteArray.size]; omega
        | false =>
          have HP := Lib.hid hp1
          clear hp1
          cases hp2 : Lib.hasPrefix t [92, 110] with
          | true =>
            have HS := Lib.hid (WX.say_t3 hp2)
            have HP2 := Lib.hid hp2
            have hln : (2 : Int) ≤ t.length := by obtain ⟨s, hs⟩ := WX.pre2 hp2; rw [hs]; simp; omega
            clear hp2
            go_wp2_with (fail)
            refine (hasprefix_any t [92, 92] false _ HP.out).mono ?_
            rintro e w3 ⟨rfl, rfl⟩
            go_wp2_with (fail)
            refine (hasprefix_any t [92, 110] true _ HP2.out).mono ?_
            rintro e w3 ⟨rfl, rfl⟩
            go_wp2_with (fail)
            refine (wbyte w.heap.size w.heap.size acc 10 wr HK.out.1 (by omega) (by omega)).mono ?_
            rintro e w3 ⟨rfl, b1, k1⟩
            go_wp2
            go_roundw
            case rel =>
              refine ⟨_, acc ++ [10], rfl, ?_, b1, HK.out.2.1.trans k1.bel, ?_⟩
              · first | (rw [List.length_append]; simp; omega) | (simp; omega)
              · rw [← HK.out.2.2, HS.out]
                first | (simp only [List.drop_one, Option.map_map]; congr 1; funext x; simp) | (simp only [Option.map_map]; congr 1; funext x; simp) | (cases WX.say (List.drop 2 t) <;> simp)
            case measure => simp [ByteArray.size]; omega
          | false =>
            have HP2 := Lib.hid hp2
            clear hp2
            have hnone : (t.length < 4 ∨ byteAt t 1 ≠ 120 ∨ WX.digN (byteAt t 2) < 0 ∨ WX.digN (byteAt t 3) < 0) → WX.unescF l = ([], 11) := fun h => by
              apply WX.unescF_none
              rw [← HK.out.2.2, WX.say_t5 H0.out HN.out HP.out HP2.out h]; rfl
            have HX := Lib.hid hnone
            clear hnone
            by_cases h4 : (t.length : Int) < 4
            · have hf := Lib.hid (HX.out (.inl (by omega)))
              go_wp2_with (fail)
              refine (hasprefix_any t [92, 92] false _ HP.out).mono ?_
              rintro e w3 ⟨rfl, rfl⟩
              go_wp2_with (fail)
              refine (hasprefix_any t [92, 110] false _ HP2.out).mono ?_
              rintro e w3 ⟨rfl, rfl⟩
              go_wp2
              go_ret2
              exact ⟨by rw [hf.out]; rfl, Kept.of_below0 HK.out.2.1⟩
            have h4' : (4 : Int) ≤ t.length := by omega
            have q1 : (1 : Int) < t.length := by omega
            have q2 : (2 : Int) < t.length := by omega
            have q3 : (3 : Int) < t.length := by omega
            clear h4
            by_cases h120 : ((byteAt t 1).toNat : Int) = 120
            · have hb120 : (((byteAt t 1).toNat : Int) == 120) = true := by simpa using h120
              have h1 : byteAt t 1 = 120 := by rw [← UInt8.toNat_inj]; have : (120 : UInt8).toNat = 120 := rfl; omega
              have H1 := Lib.hid h1
              clear h120 h1
              obtain ⟨x, hx⟩ : ∃ x, WX.digN (byteAt t 2) = x := ⟨_, rfl⟩
              obtain ⟨y, hy⟩ : ∃ y, WX.digN (byteAt t 3) = y := ⟨_, rfl⟩
              have bx := digN_bd (byteAt t 2)
              have by' := digN_bd (byteAt t 3)
              rw [hx] at bx
              rw [hy] at by'
              obtain ⟨bx0, bx1⟩ := bx
              obtain ⟨by0, by1⟩ := by'
              have HXX := Lib.hid hx
              have HYY := Lib.hid hy
              clear hx hy
              by_cases hx0 : x < 0
              · have hf := Lib.hid (HX.out (.inr (.inr (.inl (by rw [HXX.out]; exact hx0)))))
                go_wp2_with (fail)
                refine (hasprefix_any t [92, 92] false _ HP.out).mono ?_
                rintro e w3 ⟨rfl, rfl⟩
                go_wp2_with (fail)
                refine (hasprefix_any t [92, 110] false _ HP2.out).mono ?_
                rintro e w3 ⟨rfl, rfl⟩
                go_wp2_with (fail)
                refine (digit_at _ x _ HXX.out).mono ?_
                rintro e w3 ⟨rfl, rfl⟩
                go_wp2
                go_ret2
                exact ⟨by rw [hf.out]; rfl, Kept.of_below0 HK.out.2.1⟩
              by_cases hy0 : y < 0
              · have hf := Lib.hid (HX.out (.inr (.inr (.inr (by rw [HYY.out]; exact hy0)))))
                go_wp2_with (fail)
                refine (hasprefix_any t [92, 92] false _ HP.out).mono ?_
                rintro e w3 ⟨rfl, rfl⟩
                go_wp2_with (fail)
                refine (hasprefix_any t [92, 110] false _ HP2.out).mono ?_
                rintro e w3 ⟨rfl, rfl⟩
                go_wp2_with (fail)
                refine (digit_at _ x _ HXX.out).mono ?_
                rintro e w3 ⟨rfl, rfl⟩
                go_wp2_with (fail)
                refine (digit_at _ y _ HYY.out).mono ?_
                rintro e w3 ⟨rfl, rfl⟩
                go_wp2
                go_ret2
                exact ⟨by rw [hf.out]; rfl, Kept.of_below0 HK.out.2.1⟩
              have HS : Hid (WX.say t = (WX.say (t.drop 4)).map (UInt8.ofNat (16 * x.toNat + y.toNat) :: ·)) := by
                have := WX.say_t4 H0.out (by omega) H1.out (by show 0 ≤ WX.digN (byteAt t 2); rw [HXX.out]; omega) (by show 0 ≤ WX.digN (byteAt t 3); rw [HYY.out]; omega)
                change WX.say t = (WX.say (t.drop 4)).map (UInt8.ofNat (16 * (WX.digN (byteAt t 2)).toNat + (WX.digN (byteAt t 3)).toNat) :: ·) at this
                rw [HXX.out, HYY.out] at this
                exact this
              go_wp2_with (fail)
              refine (hasprefix_any t [92, 92] false _ HP.out).mono ?_
              rintro e w3 ⟨rfl, rfl⟩
              go_wp2_with (fail)
              refine (hasprefix_any t [92, 110] false _ HP2.out).mono ?_
              rintro e w3 ⟨rfl, rfl⟩
              go_wp2_with (fail)
              refine (digit_at _ x _ HXX.out).mono ?_
              rintro e w3 ⟨rfl, rfl⟩
              go_wp2_with (fail)
              refine (digit_at _ y _ HYY.out).mono ?_
              rintro e w3 ⟨rfl, rfl⟩
              go_wp2_with (fail)
              obtain ⟨x', rfl⟩ := Int.eq_ofNat_of_zero_le (show 0 ≤ x by omega)
              obtain ⟨y', rfl⟩ := Int.eq_ofNat_of_zero_le (show 0 ≤ y by omega)
              have hcc : (16 : Int) * x' + y' = ((UInt8.ofNat (16 * x' + y')).toNat : Int) := by
                rw [UInt8.toNat_ofNat']; omega
              have W3 : Hid (IntKind.u8.wrap ((16 : Int) * x' + y') = ((UInt8.ofNat (16 * x' + y')).toNat : Int)) := by
                unfold Hid; rw [← hcc]; exact IntWalk.u8_in _ (by omega)
              clear hcc
              have i0 : (2 : Int) < (t.length : Int) := by omega
              have i1 : (3 : Int) < (t.length : Int) := by omega
              have w1 : IntKind.i64.wrap ((16 : Int) * (x' : Int)) = (16 : Int) * (x' : Int) := IntWalk.i64_in _ (by omega)
              have w2 : IntKind.i64.wrap ((16 : Int) * (x' : Int) + (y' : Int)) = (16 : Int) * (x' : Int) + (y' : Int) := IntWalk.i64_in _ (by omega)
              go_region_with ((first
                | (go_at_call 33; refine (digit_at (byteAt t 2) _ _ HXX.out).mono ?_; rintro e w3 ⟨rfl, rfl⟩)
                | (go_at_call 33; refine (digit_at (byteAt t 3) _ _ HYY.out).mono ?_; rintro e w3 ⟨rfl, rfl⟩)
                | (go_at_call 31; rw [W3.out]; refine (wbyte w.heap.size w.heap.size acc (UInt8.ofNat (16 * x' + y')) _ (show Bld w.heap.size w.heap.size acc wr.drew from HK.out.1) (by omega) (by show w.heap.size ≤ wr.heap.size; omega)).mono ?_; rintro e w3 ⟨rfl, b1, k1⟩)))
              all_goals
                clear w1 w2
                go_wp2
                go_roundw
                case rel =>
                  refine ⟨_, acc ++ [UInt8.ofNat (16 * x' + y')], rfl, ?_, b1, HK.out.2.1.drew.trans k1.bel, ?_⟩
                  · first | (rw [List.length_append]; simp; omega) | (simp; omega)
                  · rw [← HK.out.2.2, HS.out]
                    simp only [Int.toNat_natCast]
                    cases WX.say (List.drop 4 t) <;> simp
                case measure => simp [ByteArray.size]; omega
            · have hb120 : (((byteAt t 1).toNat : Int) == 120) = false := by simpa using h120
              have hf := Lib.hid (HX.out (.inr (.inl (by intro h; rw [h] at h120; exact h120 rfl))))
              clear h120
              go_wp2_with (fail)
              refine (hasprefix_any t [92, 92] false _ HP.out).mono ?_
              rintro e w3 ⟨rfl, rfl⟩
              go_wp2_with (fail)
              refine (hasprefix_any t [92, 110] false _ HP2.out).mono ?_
              rintro e w3 ⟨rfl, rfl⟩
              go_wp2
              go_ret2
              exact ⟨by rw [hf.out]; rfl, Kept.of_below0 HK.out.2.1⟩
      · have hb92 : (((byteAt t 0).toNat : Int) == 92) = false := by simpa using h92
        have HS : Hid (WX.say t = (WX.say (t.drop 1)).map (byteAt t 0 :: ·)) := WX.say_t1 HN.out (by intro h; apply h92; show ((t.getD 0 0).toNat : Int) = 92; rw [h]; rfl)
        clear h92
        go_wp2_with (fail)
        refine (wbyte w.heap.size w.heap.size acc (byteAt t 0) wr HK.out.1 (by omega) (by omega)).mono ?_
        rintro e w3 ⟨rfl, b1, k1⟩
        go_wp2
        go_roundw
        case rel =>
          refine ⟨_, acc ++ [byteAt t 0], rfl, ?_, b1, HK.out.2.1.trans k1.bel, ?_⟩
          · first | (rw [List.length_append]; simp; omega) | (simp; omega)
          · rw [← HK.out.2.2, HS.out]
            first | (simp only [List.drop_one, Option.map_map]; congr 1; funext x; simp) | (simp only [Option.map_map]; congr 1; funext x; simp) | (cases WX.say (List.drop 1 t) <;> simp)
        case measure => simp [ByteArray.size]; omega
end Go.Proofs.YthooohempokchaaDoor
