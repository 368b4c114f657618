/- Walks and lemmas on the program of this seat, used by its statements; each theorem bears its own conditions. -/
import Derived.Test.YtdkjlaldhohbmaaGreatPJ
import Derived.Handy
import Derived.OwnWalk
import Derived.Deep.AppendLies
import Derived.IntWalk
import Derived.Deep.CutRange
import Derived.Deep.RegionHeld3
import Derived.Deep.RegionLaw
namespace Go.Proofs.YtdkjlaldhohbmaaGreat
open Go.RowKit
set_option linter.unusedVariables false
set_option linter.unusedSimpArgs false
set_option maxHeartbeats 8000000
set_option maxRecDepth 100000
/-! ### ObjsEven -/
theorem even_div {n D k : Nat} (hn : 1 ≤ n) (h1 : 1 ≤ k) (h2 : k ≤ n) : (D + n - 1 - (k - 1)) / n = D / n ∨ (D + n - 1 - (k - 1)) / n = D / n + 1 := by
  have hD := Nat.div_add_mod D n
  have hm := Nat.mod_lt D hn
  obtain ⟨q, hq⟩ : ∃ q, D / n = q := ⟨_, rfl⟩
  obtain ⟨r, hr⟩ : ∃ r, D % n = r := ⟨_, rfl⟩
  rw [hq, hr] at hD
  rw [hr] at hm
  rw [hq]
  have e1 : D + n - 1 - (k - 1) = n * q + (r + n - k) := by omega
  rw [e1, Nat.mul_add_div hn]
  by_cases h : r + n - k < n
  · rw [Nat.div_eq_of_lt h]; exact .inl rfl
  · have e2 : r + n - k = n * 1 + (r - k) := by omega
    rw [e2, Nat.mul_add_div hn, Nat.div_eq_of_lt (by omega)]; exact .inr rfl
theorem stand_counts {w0 w : World} {fb sb n : Nat} {V : OM} {d B : Nat} (h : Stand w0 w fb sb n V d B) (hd : d ≤ 800000000) :
    ∃ (Q : Nat) (cs : Nat → Nat), Q ≤ 800000000 ∧ (∀ k, 1 ≤ k → k ≤ n → cs k = Q ∨ cs k = Q + 1) ∧ cs 0 = 0 ∧ (∀ k, k ≤ n → Calls Tryz.prog 16 #[Ptr fb, I k] w fun e w' => e = .returned (I (cs k)) ∧ w' = w) ∧
      Calls Tryz.prog 17 #[Ptr fb] w fun e w' => e = .returned (I (n + 1 : Nat)) ∧ w' = w := by
  have hsm := stand_small h
  obtain ⟨bb, cb, pb, lb, mb, kb, v, ⟨h0, st, f, h1, h2, h3, h4⟩, _⟩ := h
  obtain ⟨c1, c2, c3⟩ := h2.cs
  refine ⟨st.D / n, fun k => if k = 0 then 0 else (st.D + n - 1 - (k - 1)) / n, by have := Nat.div_le_self st.D n; omega, fun k hk hk2 => ?_, rfl, fun k hk => ?_, ?_⟩
  · dsimp only
    rw [if_neg (by omega)]
    exact even_div (by omega) hk hk2
  · have := count_any w fb bb cb f h1.lg.pt.fl k (by omega)
    refine this.mono ?_
    rintro e w' ⟨rfl, hw⟩
    refine ⟨?_, hw⟩
    dsimp only
    by_cases hk0 : k = 0
    · subst hk0; rw [if_pos rfl, c2]; rfl
    · rw [if_neg hk0]
      have := c1 (k - 1) (by omega)
      rw [show 1 + (k - 1) = k by omega] at this
      rw [this]
  · have := blocks_any w fb bb cb f h1.lg.pt.fl
    rw [c3] at this
    exact this
set_option maxHeartbeats 8000000 in
theorem even_law (w : World) (m : Int) (v : Value) (l : List OpC) (hl : OpsAt w v l) :
    Calls Tryz.prog 6 #[.agg #[I m, v]] w fun e w' => e = .returned (.bool true) ∧ Kept [] w w' := by
  obtain ⟨W, hW⟩ : ∃ W, w.alloc (.cells #[I m, v] 24) = W := ⟨_, rfl⟩
  have k1 : Kept [] w W := by rw [← hW]; exact (Kept.refl [] w).alloc _
  have hl1 := hl.same k1
  obtain ⟨p, c, b, o, rfl, hp, hc, hlc, hll⟩ := hl1
  have hnew := heap_new w (.cells #[I m, .slice p l.length c] 24)
  rw [hW] at hnew
  have c0 := cell_at hnew 0
  have c1 := cell_at hnew 1
  simp only [List.getElem?_toArray, List.getElem?_cons_zero, List.getElem?_cons_succ] at c0 c1
  obtain ⟨wb, hwb⟩ : ∃ wb, w.heap.size = wb := ⟨_, rfl⟩
  rw [hwb] at c0 c1
  have hn8 := blkF_bound m
  have HLA := Lib.hid (laid15_any W m)
  obtain ⟨n, hn⟩ : ∃ n, blkF m = n := ⟨_, rfl⟩
  rw [hn] at HLA hn8
  have HC := Lib.hid (And.intro hp (And.intro hc (And.intro hlc hll)))
  have C1 := Lib.hid c1
  have K1 := Lib.hid k1
  have hn1 : 8 ≤ n := hn8.1
  have hn2 : n ≤ 20 := hn8.2.1
  have hlI : (l.length : Int) ≤ 4611686018427387904 := by omega
  clear hl hp hc hlc hll hnew k1 hn hn8 c1
  go_enter Tryz.func6, Tryz.ntmps6
  go_wp2_with (fail)
  refine HLA.out.mono ?_
  intro e w2 hla
  obtain ⟨fb, sb, rb, rfl, hs⟩ := laid_stand hla hn1
  have H2 := Lib.hid hs
  clear hs hla HLA c0 hW hwb
  go_wp2_with (fail)
  have HEND : Hid (∀ wr i V B, Stand W wr fb sb n V (i * n) B → i ≤ 300 → ∃ (Q : Nat) (cs : Nat → Nat), Q ≤ 800000000 ∧ (∀ k, 1 ≤ k → k ≤ n → cs k = Q ∨ cs k = Q + 1) ∧ cs 0 = 0 ∧ (∀ k, k ≤ n → Calls Tryz.prog 16 #[Ptr fb, I k] wr fun e w' => e = .returned (I (cs k)) ∧ w' = wr) ∧ Calls Tryz.prog 17 #[Ptr fb] wr fun e w' => e = .returned (I (n + 1 : Nat)) ∧ w' = wr) := Lib.hid (fun wr i V B h hi => stand_counts h (by have := Nat.mul_le_mul hi hn2; omega))
  go_loopw [6] (fun v6 wr => ∃ (i : Nat) (V : OM) (B : Nat), i ≤ 300 ∧ v6 = I i ∧ Stand W wr fb sb n V (i * n) B) (fun v6 _ => 300 - (intOf v6).toNat)
  case atStart => exact ⟨0, [], _, by omega, rfl, by rw [Nat.zero_mul]; exact H2.out⟩
  case round =>
    obtain ⟨i, V, B, hi, rfl, hs⟩ := hrel
    have e1 := hs.old.cellOf C1.out
    have HS := Lib.hid hs
    clear hs
    by_cases hgo : i < 300 ∧ l ≠ []
    · obtain ⟨hlt, hne⟩ := hgo
      have hltI : (i : Int) < 300 := by omega
      have hlp : 0 < l.length := List.length_pos_iff.2 hne
      have hlpI : (0 : Int) < l.length := by omega
      have hlz : ¬ (l.length : Int) = 0 := by omega
      have hj := Nat.mod_lt i hlp
      obtain ⟨hp, hc, hlc, hll⟩ := HC.out
      have hpe := hp hne
      subst hpe
      obtain ⟨_, _, _, _, cv, x4, x5⟩ := hc (i % l.length) hj
      have y4 := HS.out.old.cellOf x4
      have y5 := x5.same HS.out.old
      have hcl := hlc _ (List.getElem_mem hj)
      have hjI : ((i % l.length : Nat) : Int) = (i : Int) % l.length := by omega
      obtain ⟨j, hjj⟩ : ∃ j, i % l.length = j := ⟨_, rfl⟩
      obtain ⟨ch, hch⟩ : ∃ ch, l[i % l.length].ch = ch := ⟨_, rfl⟩
      rw [hch] at y5 hcl x5
      have x6 := chs_lt x5
      rw [hjj] at y4 hj hjI
      have hjI2 : (i : Int) % l.length = j := hjI.symm
      have hjlt : (j : Int) < l.length := by omega
      have HP := Lib.hid (fun W' (k : Kept [] wr W') => stand_put (HS.out.same k) (by have := Nat.mul_le_mul (Nat.le_of_lt hlt) hn2; omega) ch cv (y5.same k) (fun hne q hq => .inl (x6 hne q hq)) hcl)
      have e1d := (Kept.refl [] wr).drew.cellOf e1
      have y4d := (Kept.refl [] wr).drew.cellOf y4
      clear hp hc hlc hll hne x4 x5 x6 y5 hcl hjj hch hjI
      have hlzN : ¬ l.length = 0 := by omega
      have hlm1 : ¬ (l.length : Int) = -1 := by omega
      have hjt : (i : Int).tmod l.length = j := by rw [Int.tmod_eq_emod_of_nonneg (by omega)]; exact hjI2
      have hjw : IntKind.i64.wrap (j : Int) = j := by rw [IntKind.wrap_i64]; omega
      go_wp2_with (fail)
      go_region_with (first
        | (go_at_call 12; (with_reducible refine (HP.out _ (Kept.refl _ _).drew).mono ?_); rintro e w5 ⟨rfl, hs5⟩; have H5 := Lib.hid hs5; clear hs5))
      all_goals
        (try go_wp2)
        go_roundw
        case rel => exact ⟨i + 1, _, _, by omega, by go_num, by rw [Nat.succ_mul]; exact H5.out⟩
        case measure => simp [intOf]; omega
    · have hstop : (300 : Int) ≤ i ∨ ((i : Int) < 300 ∧ l.length = 0) := by
        by_cases h1 : i < 300
        · right
          have : l = [] := by by_cases h2 : l = []; (· exact h2); (· exact absurd ⟨h1, h2⟩ hgo)
          rw [this]; exact ⟨by omega, rfl⟩
        · left; omega
      obtain ⟨Q, cs, hQ, hcs, hcz, hcc, hbl⟩ := HEND.out wr i V B HS.out hi
      have hQI : (Q : Int) ≤ 800000000 := by omega
      have hc1 := hcc 1 (by omega)
      have hc0 := hcc 0 (by omega)
      rw [hcz] at hc0
      obtain ⟨x, hx⟩ : ∃ x, cs 1 = x := ⟨_, rfl⟩
      have hxQ := hcs 1 (Nat.le_refl _) (by omega)
      rw [hx] at hc1 hxQ
      have HCC := Lib.hid (And.intro hcs (And.intro hcc hQ))
      have HC1 : Hid (Calls Tryz.prog 16 #[Ptr fb, I 1] wr fun e w' => e = .returned (I x) ∧ w' = wr) := Lib.hid hc1
      have HC0 : Hid (Calls Tryz.prog 16 #[Ptr fb, I 0] wr fun e w' => e = .returned (I 0) ∧ w' = wr) := Lib.hid hc0
      have HBL := Lib.hid hbl
      have HXQ := Lib.hid hxQ
      clear hcs hcc hcz hc1 hc0 hbl hx hQ hgo hxQ
      have HE1 : Hid (Calls Tryz.prog 14 #[] wr fun e w' => e = .returned (.bool true) ∧ Kept [] wr w') := Lib.hid (fixed_any wr)
      generalize l.length = LL at e1 hlI hstop ⊢
      rcases hstop with hst | ⟨hst, rfl⟩
      all_goals
        go_wp2_with (fail)
        refine HC1.out.mono ?_
        rintro e w3 ⟨rfl, hw⟩
        replace hw := hw.symm
        subst hw
        go_wp2_with (fail)
        refine HC1.out.mono ?_
        rintro e w3 ⟨rfl, hw⟩
        replace hw := hw.symm
        subst hw
        go_wp2_with (fail)
        go_loopw [7, 8, 9] (fun v7 v8 v9 wx => wx = wr ∧ ∃ bq x y : Nat, 2 ≤ bq ∧ bq ≤ n + 1 ∧ v9 = I bq ∧ v7 = I x ∧ v8 = I y ∧ (x = Q ∨ x = Q + 1) ∧ (y = Q ∨ y = Q + 1)) (fun _ _ v9 _ => n + 1 - (intOf v9).toNat)
        case atStart => exact ⟨rfl, 2, x, x, by omega, by omega, rfl, rfl, rfl, HXQ.out, HXQ.out⟩
        case round =>
          obtain ⟨hwx, bq, x', y', hb2, hbn, rfl, rfl, rfl, hx', hy'⟩ := hrel
          subst hwx
          have hbnI : (bq : Int) ≤ n + 1 := by omega
          by_cases hlt : bq < n + 1
          · have hltI : (bq : Int) < ((n + 1 : Nat) : Int) := by omega
            obtain ⟨cq, hcq⟩ : ∃ cq, cs bq = cq := ⟨_, rfl⟩
            have hcB := HCC.out.1 bq (by omega) (by omega)
            have HCB := Lib.hid (HCC.out.2.1 bq (by omega))
            rw [hcq] at hcB HCB
            obtain ⟨lo, hlo⟩ : ∃ lo, min x' cq = lo := ⟨_, rfl⟩
            obtain ⟨hi', hhi⟩ : ∃ hi', max y' cq = hi' := ⟨_, rfl⟩
            have hmn : min (x' : Int) (cq : Int) = (lo : Int) := by omega
            have hmx : max (y' : Int) (cq : Int) = (hi' : Int) := by omega
            have hlo2 : lo = Q ∨ lo = Q + 1 := by omega
            have hhi2 : hi' = Q ∨ hi' = Q + 1 := by omega
            have HLH := Lib.hid (And.intro hlo2 hhi2)
            obtain ⟨N1, hN1⟩ : ∃ N1, n + 1 = N1 := ⟨_, rfl⟩
            rw [hN1] at HBL hltI
            have HN1 := Lib.hid hN1
            have hbq9 : (bq : Int) ≤ 21 := by omega
            clear hlo hhi hlo2 hhi2 hcB hcq hx' hy' hN1 hbnI
            go_wp2_with (fail)
            refine HBL.out.mono ?_
            rintro e w5 ⟨rfl, hw⟩
            replace hw := hw.symm
            subst hw
            go_wp2_with (fail)
            refine HCB.out.mono ?_
            rintro e w5 ⟨rfl, hw⟩
            replace hw := hw.symm
            subst hw
            go_wp2_with (fail)
            refine HCB.out.mono ?_
            rintro e w5 ⟨rfl, hw⟩
            replace hw := hw.symm
            subst hw
            go_wp2_with (fail)
            go_roundw
            case rel => exact ⟨trivial, bq + 1, lo, hi', by omega, by have := HN1.out; omega, by go_num, rfl, rfl, HLH.out⟩
            case measure => simp [intOf]; have := HN1.out; omega
          · have hbe : bq = n + 1 := by omega
            subst hbe
            have hle : (y' : Int) - x' ≤ 1 := by omega
            have hwr : IntKind.i64.wrap ((y' : Int) - x') = (y' : Int) - x' := by rw [IntKind.wrap_i64]; omega
            obtain ⟨N1, hN1⟩ : ∃ N1, n + 1 = N1 := ⟨_, rfl⟩
            rw [hN1] at HBL ⊢
            clear hx' hy' hN1 hbnI hlt hbn hb2
            go_wp2_with (fail)
            refine HBL.out.mono ?_
            rintro e w5 ⟨rfl, hw⟩
            replace hw := hw.symm
            subst hw
            go_wp2_with (fail)
            refine HC0.out.mono ?_
            rintro e w5 ⟨rfl, hw⟩
            replace hw := hw.symm
            subst hw
            go_wp2_with (fail)
            refine HE1.out.mono ?_
            rintro e w5 ⟨rfl, k5⟩
            go_wp2_with (fail)
            go_ret
            exact ⟨rfl, (K1.out.trans' HS.out.old).trans' k5⟩
end Go.Proofs.YtdkjlaldhohbmaaGreat
