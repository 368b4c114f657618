/- Walks and lemmas on the program of this seat, used by its statements; each theorem bears its own conditions. -/
import Derived.Test.YthooohempokchaaDoorLawF
import Derived.Test.YthooohempokchaaDoorPureC
import Derived.OwnWalk
import Derived.Deep.AppendLies
import Derived.Deep.RegionLaw
import Derived.Lib.AppendStr
import Derived.IntWalk
namespace Go.Proofs.YthooohempokchaaDoor
open Go.RowKit
set_option linter.unusedVariables false
set_option linter.unusedSimpArgs false
/-! ### The reference's Unescape -/
theorem byte0 (t : List UInt8) (i : Nat) : t.getD i 0 = byteAt t i := rfl
theorem pre_two (t : List UInt8) (a b : UInt8) (hl : 2 ≤ t.length) : Lib.hasPrefix t [a, b] = (byteAt t 0 == a && byteAt t 1 == b) := by
  match t, hl with
  | x :: y :: s, _ =>
    show List.isPrefixOf [a, b] (x :: y :: s) = (x == a && y == b)
    rw [Bool.eq_iff_iff]; simp [List.isPrefixOf]; exact ⟨fun h => ⟨h.1.symm, h.2.symm⟩, fun h => ⟨h.1.symm, h.2.symm⟩⟩
theorem say_q1 {t : List UInt8} (h0 : byteAt t 0 = 92) (hl : t.length = 1) : WX.say t = none := by
  match t, hl with
  | [c], _ => have : c = 92 := h0; subst this; rfl
theorem say_q2 {t : List UInt8} (h0 : byteAt t 0 = 92) (hl : 2 ≤ t.length) (h1 : byteAt t 1 = 92) : WX.say t = (WX.say (t.drop 2)).map (92 :: ·) := WX.say_t2 (by rw [pre_two t _ _ hl, h0, h1]; rfl)
theorem say_q3 {t : List UInt8} (h0 : byteAt t 0 = 92) (hl : 2 ≤ t.length) (h1 : byteAt t 1 = 110) : WX.say t = (WX.say (t.drop 2)).map (10 :: ·) := WX.say_t3 (by rw [pre_two t _ _ hl, h0, h1]; rfl)
theorem say_q5 {t : List UInt8} (h0 : byteAt t 0 = 92) (hl : 2 ≤ t.length) (h1 : byteAt t 1 ≠ 92) (h2 : byteAt t 1 ≠ 110) (h : t.length < 4 ∨ byteAt t 1 ≠ 120 ∨ WX.digN (byteAt t 2) < 0 ∨ WX.digN (byteAt t 3) < 0) : WX.say t = none :=
  WX.say_t5 h0 (by intro e; subst e; simp at hl) (by rw [pre_two t _ _ hl]; simp [h1]) (by rw [pre_two t _ _ hl]; simp [h2]) h
theorem rnumber_at (c : UInt8) (d : Int) (w : World) (h : WX.digN c = d) : Calls Tryd.prog 35 #[.int .u8 (c.toNat : Int)] w fun e w' => e = .returned (I d) ∧ w = w' := h ▸ rnumber_any c w
theorem u8_ne {a : UInt8} {n : Nat} (hn : n < 256) (h : ((a.toNat : Int) == n) = false) : a ≠ UInt8.ofNat n := by
  intro e; subst e; rw [beq_eq_false_iff_ne] at h; apply h; simp; omega
theorem u8_eq {a : UInt8} {n : Nat} (hn : n < 256) (h : ((a.toNat : Int) == n) = true) : a = UInt8.ofNat n := by
  rw [beq_iff_eq] at h; rw [← UInt8.toNat_inj]; simp; omega
def SayRel (l : List UInt8) (w : World) (v a : Value) (wr : World) : Prop :=
  ∃ (p : Nat) (acc : List UInt8), p ≤ l.length ∧ a = I p ∧ OwnB w.heap.size v acc wr ∧ Kept [] w wr ∧ (WX.say (l.drop p)).map (acc ++ ·) = WX.say l ∧ acc.length ≤ p
theorem news1 (w : World) (a : UInt8) : ∀ j u, (Lib.byteCells [a])[j]? = some u → (w.alloc (.cells #[.int .u8 (a.toNat : Int)] 5)).cell? ((⟨w.heap.size, 0, none⟩ : Addr).add j) = some u :=
  World.news_of_block (cs := #[.int .u8 (a.toNat : Int)]) (heap_new w _)
theorem rescape_at (l o : List UInt8) (w : World) (h : WX.escL l = o) (hl : l.length ≤ 4194304) :
    Calls Tryd.prog 23 #[S l] w fun e w' => e = .returned (S o) ∧ Kept [] w w' := h ▸ rescape_any l w hl
set_option maxHeartbeats 4000000 in
set_option maxRecDepth 100000 in
theorem runescape_any (l : List UInt8) (w : World) (hl : l.length ≤ 1048576) :
    Calls Tryd.prog 21 #[S l] w fun e w' => e = .returned (.tuple #[S (WX.unescF l).1, I (WX.unescF l).2]) ∧ Kept [] w w' := by
  obtain ⟨i0, hi, hz0, hz1, hz2⟩ := info_parts byte_info
  have hl' : (l.length : Int) ≤ 1048576 := by omega
  have HO := Lib.hid (own_empty w 5)
  go_enter Tryd.func21, Tryd.ntmps21
  go_wp2
  go_loopw [4, 5] (fun v a wr => SayRel l w v a wr) (fun _ a _ => l.length + 4 - (intOf a).toNat)
  case atStart => exact ⟨0, [], by omega, rfl, ⟨_, _, rfl, HO.out⟩, (Kept.refl _ _).alloc _, by rw [List.drop_zero]; cases WX.say l <;> simp, by simp⟩
  case round =>
    obtain ⟨p, acc, hp, rfl, ⟨sp, sc, rfl, hown⟩, hk, he, ha⟩ := hrel
    have HK := Lib.hid (And.intro hown (And.intro hk he))
    have Z := hk.size
    clear hown hk he
    by_cases hlt : p < l.length
    · have hlt' : (p : Int) < l.length := by omega
      have hbd := byteAt_le l p
      obtain ⟨hb0, hb1⟩ := hbd
      have GK : Hid (∀ (W wa : World), Kept [] w W → W.grownBy wa (Value.slice sp acc.length sc).ownBlock → Kept [] w wa) := by
        unfold Hid; intro W wa k g; exact k.grown g (fun q hq => (HK.out.1.lt q hq).1)
      have hd0 : (l.drop p).length = l.length - p := List.length_drop
      have hat : ∀ i, byteAt (l.drop p) i = byteAt l (p + i) := fun i => byteAt_drop l p i
      have HAT := Lib.hid (And.intro hd0 hat)
      clear hd0 hat
      cases h92 : (((byteAt l p).toNat : Int) == 92) with
      | false =>
        have HS : Hid (WX.say (l.drop p) = (WX.say (l.drop (p + 1))).map (byteAt l p :: ·)) := by
          have := WX.say_t1 (drop_ne hlt) (by show byteAt (l.drop p) 0 ≠ 92; rw [HAT.out.2]; exact u8_ne (n := 92) (by decide) h92)
          rw [List.drop_drop] at this
          have e : (l.drop p).getD 0 0 = byteAt l p := HAT.out.2 0
          rw [e] at this; exact this
        go_wp2_with (at_builtin
                     refine wpList_append_own _ rfl (.tmp 17) (.tmp 21) _ rfl w.heap.size 5 i0 (.int .u8 0) 1 1 Tryd.underlying45 hi hz0 hz1 hz2 rfl (by decide) (.slice sp acc.length sc) acc.length (Lib.byteCells acc) rfl (HK.out.1.alloc _) ⟨wr.heap.size, 0, none⟩ 1 1 (Lib.byteCells [byteAt l p]) rfl rfl (news1 _ _) (B_one _) (by unfold maxLen; omega) (by omega) (by simp; omega) ?_
                     intro v1 wa own1 gr1 _)
        go_wp2
        go_roundw
        case rel =>
          exact ⟨p + 1, acc ++ [byteAt l p], by omega, by go_num, OwnB.of own1 (by simp) (by rw [Lib.byteCells_append]), GK.out _ _ (HK.out.2.1.alloc _) gr1, by rw [← HK.out.2.2, HS.out]; cases WX.say (l.drop (p + 1)) <;> simp, by simp; omega⟩
        case measure => (simp [intOf]; omega)
      | true =>
        have hb92 := u8_eq (n := 92) (by decide) h92
        have H0 : Hid (byteAt (l.drop p) 0 = 92) := by unfold Hid; rw [HAT.out.2]; exact hb92
        clear hb92
        by_cases hl1 : (p : Int) + 1 < l.length
        · have hbe := byteAt_le l (p + 1)
          obtain ⟨hb2, hb3⟩ := hbe
          cases c92 : (((byteAt l (p + 1)).toNat : Int) == 92) with
          | true =>
            have HS : Hid (WX.say (l.drop p) = (WX.say (l.drop (p + 2))).map (92 :: ·)) := by
              have := say_q2 H0.out (by rw [HAT.out.1]; omega) (by rw [HAT.out.2]; exact u8_eq (n := 92) (by decide) c92)
              rwa [List.drop_drop] at this
            go_wp2_with (at_builtin
                         refine wpList_append_own _ rfl (.tmp 34) (.tmp 35) _ rfl w.heap.size 5 i0 (.int .u8 0) 1 1 Tryd.underlying45 hi hz0 hz1 hz2 rfl (by decide) (.slice sp acc.length sc) acc.length (Lib.byteCells acc) rfl (HK.out.1.alloc _) ⟨wr.heap.size, 0, none⟩ 1 1 (Lib.byteCells [92]) rfl rfl (news1 _ _) (B_one _) (by unfold maxLen; omega) (by omega) (by simp; omega) ?_
                         intro v1 wa own1 gr1 _)
            go_wp2
            go_roundw
            case rel =>
              exact ⟨p + 2, acc ++ [92], by omega, by go_num, OwnB.of own1 (by simp) (by rw [Lib.byteCells_append]), GK.out _ _ (HK.out.2.1.alloc _) gr1, by rw [← HK.out.2.2, HS.out]; cases WX.say (l.drop (p + 2)) <;> simp, by simp; omega⟩
            case measure => (simp [intOf]; omega)
          | false =>
            cases c110 : (((byteAt l (p + 1)).toNat : Int) == 110) with
            | true =>
              have HS : Hid (WX.say (l.drop p) = (WX.say (l.drop (p + 2))).map (10 :: ·)) := by
                have := say_q3 H0.out (by rw [HAT.out.1]; omega) (by rw [HAT.out.2]; exact u8_eq (n := 110) (by decide) c110)
                rwa [List.drop_drop] at this
              go_wp2_with (at_builtin
                           refine wpList_append_own _ rfl (.tmp 39) (.tmp 40) _ rfl w.heap.size 5 i0 (.int .u8 0) 1 1 Tryd.underlying45 hi hz0 hz1 hz2 rfl (by decide) (.slice sp acc.length sc) acc.length (Lib.byteCells acc) rfl (HK.out.1.alloc _) ⟨wr.heap.size, 0, none⟩ 1 1 (Lib.byteCells [10]) rfl rfl (news1 _ _) (B_one _) (by unfold maxLen; omega) (by omega) (by simp; omega) ?_
                           intro v1 wa own1 gr1 _)
              go_wp2
              go_roundw
              case rel =>
                exact ⟨p + 2, acc ++ [10], by omega, by go_num, OwnB.of own1 (by simp) (by rw [Lib.byteCells_append]), GK.out _ _ (HK.out.2.1.alloc _) gr1, by rw [← HK.out.2.2, HS.out]; cases WX.say (l.drop (p + 2)) <;> simp, by simp; omega⟩
              case measure => (simp [intOf]; omega)
            | false =>
              have hnone : ((l.drop p).length < 4 ∨ byteAt l (p + 1) ≠ 120 ∨ WX.digN (byteAt l (p + 2)) < 0 ∨ WX.digN (byteAt l (p + 3)) < 0) → WX.unescF l = ([], 11) := fun h => by
                apply WX.unescF_none
                rw [← HK.out.2.2, say_q5 H0.out (by rw [HAT.out.1]; omega) (by rw [HAT.out.2]; exact u8_ne (n := 92) (by decide) c92) (by rw [HAT.out.2]; exact u8_ne (n := 110) (by decide) c110) (by rw [HAT.out.2, HAT.out.2, HAT.out.2]; exact h)]
                rfl
              have HX := Lib.hid hnone
              clear hnone
              cases c120 : (((byteAt l (p + 1)).toNat : Int) == 120) with
              | false =>
                have hf := Lib.hid (HX.out (.inr (.inl (u8_ne (n := 120) (by decide) c120))))
                go_wp2
                go_ret2
                exact ⟨by rw [hf.out]; rfl, HK.out.2.1⟩
              | true =>
                by_cases h4 : (p : Int) + 1 + 2 < l.length
                · obtain ⟨x, hx⟩ : ∃ x, WX.digN (byteAt l (p + 2)) = x := ⟨_, rfl⟩
                  obtain ⟨y, hy⟩ : ∃ y, WX.digN (byteAt l (p + 3)) = y := ⟨_, rfl⟩
                  have bx := digN_bd (byteAt l (p + 2))
                  have by' := digN_bd (byteAt l (p + 3))
                  rw [hx] at bx
                  rw [hy] at by'
                  obtain ⟨bx0, bx1⟩ := bx
                  obtain ⟨by0, by1⟩ := by'
                  have HXX := Lib.hid hx
                  have HYY := Lib.hid hy
                  have h5 : (p : Int) + 1 + 1 < l.length := by omega
                  clear hx hy
                  by_cases hx0 : x < 0
                  · have hf := Lib.hid (HX.out (.inr (.inr (.inl (by rw [HXX.out]; exact hx0)))))
                    go_wp2_with (fail)
                    refine (rnumber_at _ x _ HXX.out).mono ?_
                    rintro e w3 ⟨rfl, rfl⟩
                    go_wp2
                    go_ret2
                    exact ⟨by rw [hf.out]; rfl, HK.out.2.1⟩
                  by_cases hy0 : y < 0
                  · have hf := Lib.hid (HX.out (.inr (.inr (.inr (by rw [HYY.out]; exact hy0)))))
                    go_wp2_with (fail)
                    refine (rnumber_at _ x _ HXX.out).mono ?_
                    rintro e w3 ⟨rfl, rfl⟩
                    go_wp2_with (fail)
                    refine (rnumber_at _ y _ HYY.out).mono ?_
                    rintro e w3 ⟨rfl, rfl⟩
                    go_wp2
                    go_ret2
                    exact ⟨by rw [hf.out]; rfl, HK.out.2.1⟩
                  have HS : Hid (WX.say (l.drop p) = (WX.say (l.drop (p + 4))).map (UInt8.ofNat (16 * x.toNat + y.toNat) :: ·)) := by
                    have h2 : WX.digN (byteAt (l.drop p) 2) = x := by rw [HAT.out.2]; exact HXX.out
                    have h3 : WX.digN (byteAt (l.drop p) 3) = y := by rw [HAT.out.2]; exact HYY.out
                    have := WX.say_t4 H0.out (by rw [HAT.out.1]; omega) (by show byteAt (l.drop p) 1 = 120; rw [HAT.out.2]; exact u8_eq (n := 120) (by decide) c120) (by show 0 ≤ WX.digN (byteAt (l.drop p) 2); rw [h2]; omega) (by show 0 ≤ WX.digN (byteAt (l.drop p) 3); rw [h3]; omega)
                    change WX.say (l.drop p) = (WX.say ((l.drop p).drop 4)).map (UInt8.ofNat (16 * (WX.digN (byteAt (l.drop p) 2)).toNat + (WX.digN (byteAt (l.drop p) 3)).toNat) :: ·) at this
                    rw [h2, h3, List.drop_drop] at this
                    exact this
                  go_wp2_with (fail)
                  refine (rnumber_at _ x _ HXX.out).mono ?_
                  rintro e w3 ⟨rfl, rfl⟩
                  go_wp2_with (fail)
                  refine (rnumber_at _ y _ HYY.out).mono ?_
                  rintro e w3 ⟨rfl, rfl⟩
                  go_wp2_with (fail)
                  obtain ⟨x', rfl⟩ := Int.eq_ofNat_of_zero_le (show 0 ≤ x by omega)
                  obtain ⟨y', rfl⟩ := Int.eq_ofNat_of_zero_le (show 0 ≤ y by omega)
                  obtain ⟨z, hzz⟩ : ∃ z, UInt8.ofNat (16 * x' + y') = z := ⟨_, rfl⟩
                  have hcc : (16 : Int) * x' + y' = (z.toNat : Int) := by
                    rw [← hzz, UInt8.toNat_ofNat']; omega
                  have w3 : IntKind.u8.wrap ((16 : Int) * x' + y') = (z.toNat : Int) := by
                    rw [← hcc]; exact IntWalk.u8_in _ (by omega)
                  simp only [Int.toNat_natCast] at HS
                  rw [hzz] at HS
                  clear hcc hzz
                  have w1 : IntKind.i64.wrap ((16 : Int) * (x' : Int)) = (16 : Int) * (x' : Int) := IntWalk.i64_in _ (by omega)
                  have w2 : IntKind.i64.wrap ((16 : Int) * (x' : Int) + (y' : Int)) = (16 : Int) * (x' : Int) + (y' : Int) := IntWalk.i64_in _ (by omega)
                  have v1 : IntKind.i64.wrap ((p : Int) + 1 + 1) = (p : Int) + 1 + 1 := IntWalk.i64_in _ (by omega)
                  have v2 : IntKind.i64.wrap ((p : Int) + 1 + 2) = (p : Int) + 1 + 2 := IntWalk.i64_in _ (by omega)
                  have C1 : ∀ W, Calls Tryd.prog 35 #[.int .u8 ((byteAt l ((p : Int) + 1 + 1).toNat).toNat : Int)] W fun e w' => e = .returned (I (x' : Int)) ∧ W = w' := fun W => rnumber_at _ _ W (by rw [show ((p : Int) + 1 + 1).toNat = p + 2 by omega]; exact HXX.out)
                  have C2 : ∀ W, Calls Tryd.prog 35 #[.int .u8 ((byteAt l ((p : Int) + 1 + 2).toNat).toNat : Int)] W fun e w' => e = .returned (I (y' : Int)) ∧ W = w' := fun W => rnumber_at _ _ W (by rw [show ((p : Int) + 1 + 2).toNat = p + 3 by omega]; exact HYY.out)
                  have HC1 := Lib.hid C1
                  have HC2 := Lib.hid C2
                  clear C1 C2
                  have e1 : (p : Int) + 1 + 1 < l.length := by omega
                  have e2 : (p : Int) + 1 + 2 < l.length := by omega
                  go_region_law (first
                    | (refine step_append_lies _ rfl (.tmp 65) (.tmp 79) 45 rfl w.heap.size 5 i0 (.int .u8 0) 1 1 Tryd.underlying45 hi hz0 hz1 hz2 rfl (by decide) (.slice sp acc.length sc) acc.length (Lib.byteCells acc) (by simp [Act.eval, Act.put]) (by exact HK.out.1.alloc _) ⟨wr.heap.size, 0, none⟩ 1 1 (Lib.byteCells [z]) (by simp [Act.eval, Act.put]) rfl (by exact news1 wr z) (B_one _) (by decide) (by unfold maxLen; omega) (by omega) (by simp; omega) _ rfl ?_; intro g cap wa own1 gr1 _ _)
                    | (go_simp; go_at_call 35; (with_reducible refine (HC1.out _).mono ?_); rintro e w2 ⟨rfl, rfl⟩)
                    | (go_simp; go_at_call 35; (with_reducible refine (HC2.out _).mono ?_); rintro e w2 ⟨rfl, rfl⟩))
                  all_goals
                    clear w1 w2 w3 v1 v2
                    go_wp2
                    go_roundw
                    case rel =>
                      exact ⟨p + 4, acc ++ [z], by omega, by go_num, OwnB.of own1 (by simp) (by rw [Lib.byteCells_append]), by first | exact GK.out _ _ (HK.out.2.1.alloc _).drew gr1 | exact GK.out _ _ (HK.out.2.1.drew.alloc _) gr1 | exact GK.out _ _ (HK.out.2.1.alloc _) gr1, by rw [← HK.out.2.2, HS.out]; cases WX.say (l.drop (p + 4)) <;> simp, by simp; omega⟩
                    case measure => (simp [intOf]; omega)
                · have hf := Lib.hid (HX.out (.inl (by rw [HAT.out.1]; omega)))
                  go_wp2
                  go_ret2
                  exact ⟨by rw [hf.out]; rfl, HK.out.2.1⟩
        · have hnone : WX.unescF l = ([], 11) := by
            apply WX.unescF_none
            rw [← HK.out.2.2, say_q1 H0.out (by rw [HAT.out.1]; omega)]
            rfl
          have hf := Lib.hid hnone
          clear hnone
          go_wp2
          go_ret2
          exact ⟨by rw [hf.out]; rfl, HK.out.2.1⟩
    · obtain rfl : p = l.length := by omega
      have hsay : WX.say l = some acc := by rw [← HK.out.2.2, List.drop_length]; simp [WX.say_nil]
      have HS := Lib.hid hsay
      clear hsay
      have hcv := conv_own HK.out.1
      by_cases hq : WX.escL acc = l
      · have hb : (WX.escL acc == l) = true := by simpa using hq
        have hf := Lib.hid (WX.unescF_yes HS.out hq)
        clear hq
        go_wp2_with (fail)
        refine (rescape_any acc wr (by omega)).mono ?_
        rintro e w4 ⟨rfl, k2⟩
        have hcv2 := conv_own (own_kept HK.out.1 k2)
        have K := Lib.hid (HK.out.2.1.trans' k2)
        clear k2
        go_wp2
        go_ret2
        exact ⟨by rw [hf.out]; rfl, K.out⟩
      · have hb : (WX.escL acc == l) = false := by simpa using hq
        have hf := Lib.hid (WX.unescF_no HS.out hq)
        clear hq
        go_wp2_with (fail)
        refine (rescape_any acc wr (by omega)).mono ?_
        rintro e w4 ⟨rfl, k2⟩
        have hcv2 := conv_own (own_kept HK.out.1 k2)
        have K := Lib.hid (HK.out.2.1.trans' k2)
        clear k2
        go_wp2
        go_ret2
        exact ⟨by rw [hf.out]; rfl, K.out⟩
/-! ### The statement's walk -/
theorem runescape_at (l o : List UInt8) (k : Int) (w : World) (h : WX.unescF l = (o, k)) (hl : l.length ≤ 1048576) :
    Calls Tryd.prog 21 #[S l] w fun e w' => e = .returned (.tuple #[S o, I k]) ∧ Kept [] w w' := by
  have := runescape_any l w hl; rw [h] at this; exact this
set_option maxHeartbeats 1000000 in
set_option maxRecDepth 100000 in
theorem escapesLaw_any (l : List UInt8) (w : World) (hl : l.length ≤ 1048576) (hT : Tabs w) :
    Calls Tryd.prog 5 #[S l] w fun e w' => e = .returned (.bool true) ∧ Kept [] w w' := by
  have HT := Lib.hid hT
  clear hT
  obtain ⟨o, ho⟩ : ∃ o, WX.escL l = o := ⟨_, rfl⟩
  obtain ⟨t, k, htk⟩ : ∃ t k, WX.unescF l = (t, k) := ⟨_, _, rfl⟩
  have HO := Lib.hid ho
  have HU := Lib.hid htk
  clear ho htk
  have ho2 : (o == o) = true := by simp
  have ht2 : (t == t) = true := by simp
  go_enter Tryd.func5, Tryd.ntmps5
  go_wp2_with (fail)
  refine (unescape_at l t k w HU.out (by omega)).mono ?_
  rintro e w1 ⟨rfl, k1⟩
  have H1 := Lib.hid k1
  clear k1
  go_wp2_with (fail)
  refine (runescape_at l t k w1 HU.out (by omega)).mono ?_
  rintro e w2 ⟨rfl, k2⟩
  have H2 := Lib.hid (H1.out.trans' k2)
  clear k2
  go_wp2_with (fail)
  refine (fixed_any w2 (HT.out.kept H2.out)).mono ?_
  rintro e w3 ⟨rfl, k3⟩
  have H3 := Lib.hid (H2.out.trans' k3)
  clear k3
  go_wp2_with (fail)
  refine (escape_at l o w3 HO.out (by omega)).mono ?_
  rintro e w4 ⟨rfl, k4⟩
  have H4 := Lib.hid (H3.out.trans' k4)
  clear k4
  go_wp2_with (fail)
  refine (rescape_at l o w4 HO.out (by omega)).mono ?_
  rintro e w5 ⟨rfl, k5⟩
  have H5 := Lib.hid (H4.out.trans' k5)
  clear k5
  go_wp2
  go_ret
  exact ⟨rfl, H5.out⟩
end Go.Proofs.YthooohempokchaaDoor
