/- Walks and lemmas on the program of this seat, used by its statements; each theorem bears its own conditions. -/
import Derived.Test.YtdkjlaldhohbmaaGreatPH
import Derived.Handy
import Derived.OwnWalk
import Derived.Deep.AppendLies
import Derived.IntWalk
import Derived.Deep.CutRange
import Derived.Deep.RegionHeld3
import Derived.Deep.RegionLaw
namespace Go.Proofs.YtdkjlaldhohbmaaGreat
open Go.RowKit
set_option linter.unusedVariables false
set_option linter.unusedSimpArgs false
set_option maxHeartbeats 8000000
set_option maxRecDepth 100000
/-! ### A script in memory -/
structure OpC where
  kind : Int
  n : Int
  keep : Int
  mask : UInt8
  ch : List Ch
def OpsAt (w : World) (v : Value) (l : List OpC) : Prop := ∃ p c b o, v = .slice p l.length c ∧ (l ≠ [] → p = some ⟨b, o, none⟩) ∧
  (∀ (i : Nat) (hi : i < l.length), w.cell? ⟨b, o + i * 5, none⟩ = some (I l[i].kind) ∧ w.cell? ⟨b, o + i * 5 + 1, none⟩ = some (I l[i].n) ∧ w.cell? ⟨b, o + i * 5 + 2, none⟩ = some (I l[i].keep) ∧ w.cell? ⟨b, o + i * 5 + 3, none⟩ = some (B l[i].mask) ∧
    ∃ cv, w.cell? ⟨b, o + i * 5 + 4, none⟩ = some cv ∧ ChsAt w cv l[i].ch) ∧
  (∀ x ∈ l, x.ch.length ≤ 4611686018427387904) ∧ l.length ≤ 4611686018427387904
theorem OpsAt.same {w w' : World} {v : Value} {l : List OpC} (h : OpsAt w v l) (k : Kept [] w w') : OpsAt w' v l := by
  obtain ⟨p, c, b, o, rfl, hp, hc, h1, h2⟩ := h
  refine ⟨p, c, b, o, rfl, hp, fun i hi => ?_, h1, h2⟩
  obtain ⟨a0, a1, a2, a3, cv, a4, a5⟩ := hc i hi
  exact ⟨k.cellOf a0, k.cellOf a1, k.cellOf a2, k.cellOf a3, cv, k.cellOf a4, a5.same k⟩
theorem form_range (last : Int) (l : List Ch) : formG last l = 0 ∨ formG last l = 1 ∨ formG last l = 151 := by
  induction l generalizing last with
  | nil => exact .inl rfl
  | cons c l ih =>
    unfold formG
    split
    · exact .inr (.inr rfl)
    · split
      · exact .inr (.inl rfl)
      · exact ih _
theorem may_range (n : Nat) (V : OM) (l : List Ch) : mayF n V l = 0 ∨ mayF n V l = 1 ∨ mayF n V l = 151 ∨ mayF n V l = 152 := by
  unfold mayF
  split
  · have := form_range 0 l
    unfold formF
    omega
  · split
    · exact .inr (.inr (.inl rfl))
    · split
      · exact .inr (.inr (.inr rfl))
      · exact .inl rfl
theorem put_else {n : Nat} {V : OM} {l : List Ch} (h : mayF n V l ≠ 0) : putF n V l = V := by unfold putF; rw [if_neg h]
/-! ### ObjsRoom -/
set_option maxHeartbeats 8000000 in
theorem room_law (w : World) (m : Int) (v : Value) (l : List OpC) (hl : OpsAt w v l) :
    Calls Tryz.prog 3 #[.agg #[I m, v]] w fun e w' => e = .returned (.bool true) ∧ Kept [] w w' := by
  obtain ⟨W, hW⟩ : ∃ W, w.alloc (.cells #[I m, v] 24) = W := ⟨_, rfl⟩
  have k1 : Kept [] w W := by rw [← hW]; exact (Kept.refl [] w).alloc _
  have hl1 := hl.same k1
  obtain ⟨p, c, b, o, rfl, hp, hc, hlc, hll⟩ := hl1
  have hnew := heap_new w (.cells #[I m, .slice p l.length c] 24)
  rw [hW] at hnew
  have c0 := cell_at hnew 0
  have c1 := cell_at hnew 1
  simp only [List.getElem?_toArray, List.getElem?_cons_zero, List.getElem?_cons_succ] at c0 c1
  obtain ⟨wb, hwb⟩ : ∃ wb, w.heap.size = wb := ⟨_, rfl⟩
  rw [hwb] at c0 c1
  have hn8 := blkF_bound m
  have HLA := Lib.hid (laid15_any W m)
  obtain ⟨n, hn⟩ : ∃ n, blkF m = n := ⟨_, rfl⟩
  rw [hn] at HLA hn8
  have HC := Lib.hid (And.intro hp (And.intro hc (And.intro hlc hll)))
  have C1 := Lib.hid c1
  have K1 := Lib.hid k1
  have HWB := Lib.hid hwb
  have hn1 : 8 ≤ n := hn8.1
  have hn2 : n ≤ 20 := hn8.2.1
  have hlI : (l.length : Int) ≤ 4611686018427387904 := by omega
  clear hl hp hc hlc hll hnew k1 hn hn8 c1
  go_enter Tryz.func3, Tryz.ntmps3
  go_wp2_with (fail)
  refine HLA.out.mono ?_
  intro e w2 hla
  obtain ⟨fb, sb, rb, rfl, hs⟩ := laid_stand hla hn1
  have H2 := Lib.hid hs
  clear hs hla HLA c0 hW hwb
  go_wp2_with (fail)
  go_loopw [6] (fun v6 wr => ∃ (i : Nat) (V : OM) (B : Nat), i ≤ 300 ∧ v6 = I i ∧ Stand W wr fb sb n V (i * n) B) (fun v6 _ => 300 - (intOf v6).toNat)
  case atStart => exact ⟨0, [], _, by omega, rfl, by rw [Nat.zero_mul]; exact H2.out⟩
  case round =>
    obtain ⟨i, V, B, hi, rfl, hs⟩ := hrel
    have e1 := hs.old.cellOf C1.out
    have HS := Lib.hid hs
    clear hs
    by_cases hlt : i < 300
    · have hltI : (i : Int) < 300 := by omega
      by_cases hne : l = []
      · have hl0 : l.length = 0 := by rw [hne]; rfl
        have hl0I : (l.length : Int) = 0 := by omega
        clear hne
        rw [hl0] at e1
        go_wp2_with (fail)
        refine (fixed_any _).mono ?_
        rintro e w3 ⟨rfl, k3⟩
        go_wp2_with (fail)
        go_ret
        exact ⟨rfl, (K1.out.trans' HS.out.old).trans' k3⟩
      · have hlp : 0 < l.length := List.length_pos_iff.2 hne
        have hlpI : (0 : Int) < l.length := by omega
        have hlz : ¬ (l.length : Int) = 0 := by omega
        have hj := Nat.mod_lt i hlp
        obtain ⟨hp, hc, hlc, hll⟩ := HC.out
        have hpe := hp hne
        subst hpe
        obtain ⟨_, _, _, _, cv, x4, x5⟩ := hc (i % l.length) hj
        have y4 := HS.out.old.cellOf x4
        have y5 := x5.same HS.out.old
        have hcl := hlc _ (List.getElem_mem hj)
        have hjI : ((i % l.length : Nat) : Int) = (i : Int) % l.length := by omega
        obtain ⟨j, hjj⟩ : ∃ j, i % l.length = j := ⟨_, rfl⟩
        obtain ⟨ch, hch⟩ : ∃ ch, l[i % l.length].ch = ch := ⟨_, rfl⟩
        rw [hch] at y5 hcl x5
        have x6 := chs_lt x5
        rw [hjj] at y4 hj hjI
        have hjI2 : (i : Int) % l.length = j := hjI.symm
        have hjlt : (j : Int) < l.length := by omega
        have HX := Lib.hid (And.intro y5 (And.intro hcl x6))
        clear hp hc hlc hll hne x4 x5 x6 y5 hcl hjj hch hjI
        go_wp2_with (fail)
        go_quiet (fail)
        have h3 := HS.out.same ((Kept.refl [] wr).drewN nq)
        have HW3 := Lib.hid (stand_weight h3)
        have HK3 := Lib.hid (stand_keys h3 0 1073741824)
        have H3 := Lib.hid (And.intro h3 (HX.out.1.same ((Kept.refl [] wr).drewN nq)))
        clear h3 e1 y4
        go_wp2_with (fail)
        refine HW3.out.mono ?_
        rintro e w3 ⟨rfl, rfl⟩
        go_wp2_with (fail)
        refine HK3.out.mono ?_
        rintro e w4 ⟨kv, rfl, own, k4⟩
        obtain ⟨p4, c4, rfl⟩ := own_form own
        have H4 := Lib.hid (And.intro (H3.out.1.same k4) (H3.out.2.same k4))
        clear own k4 HW3 HK3
        have HP := Lib.hid (stand_put H4.out.1 (by have := Nat.mul_le_mul (Nat.le_of_lt hlt) hn2; omega) ch cv H4.out.2 (fun hne q hq => .inl (HX.out.2.2 hne q hq)) HX.out.2.1)
        obtain ⟨KL, hKL⟩ : ∃ KL, (keysF V 0 1073741824).length = KL := ⟨_, rfl⟩
        obtain ⟨SU, hSU⟩ : ∃ SU, sumA wO V = SU := ⟨_, rfl⟩
        rw [hKL, hSU]
        have HKS := Lib.hid (And.intro hKL hSU)
        clear hKL hSU
        have hr := may_range n V ch
        have hel := put_else (n := n) (V := V) (l := ch)
        obtain ⟨y, hy⟩ : ∃ y, mayF n V ch = y := ⟨_, rfl⟩
        rw [hy] at HP hr hel
        have HY := Lib.hid hel
        clear hy hel
        go_wp2_with (fail)
        refine HP.out.mono ?_
        rintro e w5 ⟨rfl, hs5⟩
        have hsm := stand_small hs5
        clear HP
        obtain ⟨Q, hQ⟩ : ∃ Q, quotaF n = Q := ⟨_, rfl⟩
        rw [hQ] at hsm
        have hQI : (Q : Int) ≤ 2000 := by omega
        rcases hr with rfl | hyn
        · obtain ⟨V', hV'⟩ : ∃ V', putF n V ch = V' := ⟨_, rfl⟩
          rw [hV'] at hs5 hsm
          have HW6 := Lib.hid (stand_weight hs5)
          have HQ6 := Lib.hid (stand_quota hs5)
          obtain ⟨SW, hSW⟩ : ∃ SW, sumA wO V' = SW := ⟨_, rfl⟩
          rw [hSW] at HW6 hsm
          rw [hQ] at HQ6
          have hle : (SW : Int) ≤ Q := by omega
          have H6 := Lib.hid hs5
          clear hs5 hsm hQ hV' hSW
          go_wp2_with (fail)
          refine HW6.out.mono ?_
          rintro e w6 ⟨rfl, rfl⟩
          go_wp2_with (fail)
          refine HQ6.out.mono ?_
          rintro e w7 ⟨rfl, rfl⟩
          go_wp2_with (fail)
          go_roundw
          case rel => exact ⟨i + 1, V', _, by omega, by go_num, by rw [Nat.succ_mul]; exact H6.out⟩
          case measure => simp [intOf]; omega
        · have hy0 : y ≠ 0 := by omega
          rw [HY.out hy0] at hs5 hsm
          have HW6 := Lib.hid (stand_weight hs5)
          have HQ6 := Lib.hid (stand_quota hs5)
          have HK6 := Lib.hid (stand_keys hs5 0 1073741824)
          rw [HKS.out.2] at HW6 hsm
          rw [HKS.out.1] at HK6
          rw [hQ] at HQ6
          have hle : (SU : Int) ≤ Q := by omega
          have H6 := Lib.hid hs5
          clear hs5 hsm hQ HY hy0
          rcases hyn with rfl | rfl | rfl
          all_goals
            go_wp2_with (fail)
            refine HW6.out.mono ?_
            rintro e w6 ⟨rfl, rfl⟩
            go_wp2_with (fail)
            refine HQ6.out.mono ?_
            rintro e w7 ⟨rfl, rfl⟩
            go_wp2_with (fail)
            refine HW6.out.mono ?_
            rintro e w8 ⟨rfl, rfl⟩
            go_wp2_with (fail)
            refine HK6.out.mono ?_
            rintro e w9 ⟨kv9, rfl, own9, k9⟩
            obtain ⟨p9, c9, rfl⟩ := own_form own9
            have K9 := Lib.hid k9
            clear own9 k9
            go_wp2_with (fail)
            go_roundw
            case rel => exact ⟨i + 1, V, _, by omega, by go_num, by rw [Nat.succ_mul]; exact H6.out.same K9.out⟩
            case measure => simp [intOf]; omega
    · have hi3 : i = 300 := by omega
      subst hi3
      go_wp2_with (fail)
      refine (fixed_any _).mono ?_
      rintro e w3 ⟨rfl, k3⟩
      go_wp2_with (fail)
      go_ret
      exact ⟨rfl, (K1.out.trans' HS.out.old).trans' k3⟩
end Go.Proofs.YtdkjlaldhohbmaaGreat
