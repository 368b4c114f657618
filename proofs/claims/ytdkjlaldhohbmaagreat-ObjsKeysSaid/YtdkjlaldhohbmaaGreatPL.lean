/- Walks and lemmas on the program of this seat, used by its statements; each theorem bears its own conditions. -/
import Derived.Test.YtdkjlaldhohbmaaGreatPJ
import Derived.Handy
import Derived.OwnWalk
import Derived.Deep.AppendLies
import Derived.IntWalk
import Derived.Deep.CutRange
import Derived.Deep.RegionHeld3
import Derived.Deep.RegionLaw
import Derived.Laws.BitsLemmas
namespace Go.Proofs.YtdkjlaldhohbmaaGreat
open Go.RowKit
set_option linter.unusedVariables false
set_option linter.unusedSimpArgs false
set_option maxHeartbeats 8000000
set_option maxRecDepth 100000
/-! ### ObjsKeys -/
theorem and7 (n : Int) : bits .and .i64 n 7 = n % 8 := by
  have h7 : (BitVec.ofInt 64 7).toNat = 2 ^ 3 - 1 := by decide
  have key : (BitVec.ofInt 64 n &&& BitVec.ofInt 64 7).toNat = (n % ((2 ^ 64 : Nat) : Int)).toNat % 2 ^ 3 := by
    rw [BitVec.toNat_and, BitVec.toNat_ofInt, h7, Nat.and_two_pow_sub_one_eq_mod]
  show IntKind.i64.wrap ((BitVec.ofInt 64 n &&& BitVec.ofInt 64 7).toNat : Nat) = n % 8
  rw [key, IntKind.wrap_i64]
  omega
structure Cut1 (K : List Int) (a : Int) (h : Nat) : Prop where
  lo : ∀ y ∈ K.take h, y < a
  hi : ∀ y ∈ K.drop h, a ≤ y
theorem cut_filter {K : List Int} {a : Int} {h : Nat} (c : Cut1 K a h) : K.filter (fun k => decide (a ≤ k)) = K.drop h := by
  conv => lhs; rw [← List.take_append_drop h K]
  rw [List.filter_append]
  have e1 : (K.take h).filter (fun k => decide (a ≤ k)) = [] := List.filter_eq_nil_iff.2 (fun y hy => by have := c.lo y hy; simp; omega)
  have e2 : (K.drop h).filter (fun k => decide (a ≤ k)) = K.drop h := List.filter_eq_self.2 (fun y hy => by have := c.hi y hy; simpa using this)
  rw [e1, e2, List.nil_append]
theorem cut_next {K : List Int} {a : Int} {h : Nat} (hs : K.Pairwise (· < ·)) (hh : h < K.length) (c : Cut1 K a h) : Cut1 K (K[h] + 1) (h + 1) ∧ a ≤ K[h] := by
  have hd : K.drop h = K[h] :: K.drop (h + 1) := List.drop_eq_getElem_cons hh
  have hp : (K.take h ++ K[h] :: K.drop (h + 1)).Pairwise (· < ·) := by rw [← hd, List.take_append_drop]; exact hs
  obtain ⟨_, h2, h3⟩ := List.pairwise_append.1 hp
  refine ⟨⟨fun y hy => ?_, fun y hy => ?_⟩, c.hi _ (by rw [hd]; exact List.mem_cons_self)⟩
  · rw [List.take_succ_eq_append_getElem hh] at hy
    rcases List.mem_append.1 hy with hy | hy
    · have := h3 y hy K[h] List.mem_cons_self; omega
    · have : y = K[h] := by simpa using hy
      omega
  · have := (List.pairwise_cons.1 h2).1 y hy
    omega
theorem stand_all {w0 w : World} {fb sb n : Nat} {V : OM} {d B : Nat} (h : Stand w0 w fb sb n V d B) :
    ∃ K : List Int, K.Pairwise (· < ·) ∧ K.length ≤ 2000 ∧ (∀ k ∈ K, 1 ≤ k ∧ k ≤ 2147483647) ∧ keysF V 0 1073741824 = K ∧ ∀ fr most, keysF V fr most = (K.filter fun k => decide (fr ≤ k)).take most.toNat := by
  have hsm := stand_small h
  obtain ⟨bb, cb, pb, lb, mb, kb, v, ⟨h0, st, f, h1, h2, h3, h4⟩, _⟩ := h
  have e := congrArg (fun l : List (Int × List UInt8) => l.map (·.1)) (val_map h1.inv.sorted h0 h4)
  simp only [mapA, List.map_map, Function.comp_def] at e
  have hk := om_keys h1.inv
  rw [show st.M.map (·.1) = V.map (·.1) from e] at hk
  have hlen : (V.map (·.1)).length ≤ 2000 := by rw [List.length_map]; have := om_len V; omega
  have hp0 : (V.map (·.1)).Pairwise (· < ·) := by rw [List.pairwise_map]; exact h0
  refine ⟨V.map (·.1), hp0, hlen, hk, ?_, fun fr most => rfl⟩
  unfold keysF
  rw [List.filter_eq_self.2 (fun y hy => by have := (hk y hy).1; simp; omega), List.take_of_length_le (by simpa using Nat.le_trans hlen (by decide))]
set_option maxHeartbeats 8000000 in
theorem keys_law (w : World) (m : Int) (v : Value) (l : List OpC) (hl : OpsAt w v l) (sm : Int) :
    Calls Tryz.prog 5 #[.agg #[I m, v], I sm] w fun e w' => e = .returned (.bool true) ∧ Kept [] w w' := by
  obtain ⟨W, hW⟩ : ∃ W, w.alloc (.cells #[I m, v] 24) = W := ⟨_, rfl⟩
  have k1 : Kept [] w W := by rw [← hW]; exact (Kept.refl [] w).alloc _
  have hl1 := hl.same k1
  obtain ⟨p, c, b, o, rfl, hp, hc, hlc, hll⟩ := hl1
  have hnew := heap_new w (.cells #[I m, .slice p l.length c] 24)
  rw [hW] at hnew
  have c0 := cell_at hnew 0
  have c1 := cell_at hnew 1
  simp only [List.getElem?_toArray, List.getElem?_cons_zero, List.getElem?_cons_succ] at c0 c1
  obtain ⟨wb, hwb⟩ : ∃ wb, w.heap.size = wb := ⟨_, rfl⟩
  rw [hwb] at c0 c1
  have hn8 := blkF_bound m
  have HLA := Lib.hid (laid15_any W m)
  obtain ⟨n, hn⟩ : ∃ n, blkF m = n := ⟨_, rfl⟩
  rw [hn] at HLA hn8
  have HC := Lib.hid (And.intro hp (And.intro hc (And.intro hlc hll)))
  have C1 := Lib.hid c1
  have K1 := Lib.hid k1
  have hn1 : 8 ≤ n := hn8.1
  have hn2 : n ≤ 20 := hn8.2.1
  have hlI : (l.length : Int) ≤ 4611686018427387904 := by omega
  clear hl hp hc hlc hll hnew k1 hn hn8 c1
  go_enter Tryz.func5, Tryz.ntmps5
  go_wp2_with (fail)
  refine HLA.out.mono ?_
  intro e w2 hla
  obtain ⟨fb, sb, rb, rfl, hs⟩ := laid_stand hla hn1
  have H2 := Lib.hid hs
  clear hs hla HLA c0 hW hwb
  go_wp2_with (fail)
  go_loopw [8] (fun v8 wr => ∃ (i : Nat) (V : OM) (B : Nat), i ≤ 60 ∧ v8 = I i ∧ Stand W wr fb sb n V (i * n) B) (fun v8 _ => 60 - (intOf v8).toNat)
  case atStart => exact ⟨0, [], _, by omega, rfl, by rw [Nat.zero_mul]; exact H2.out⟩
  case round =>
    obtain ⟨i, V, B, hi, rfl, hs⟩ := hrel
    have e1 := hs.old.cellOf C1.out
    have HS := Lib.hid hs
    clear hs
    by_cases hgo : i < l.length ∧ i < 60
    · obtain ⟨hj, hlt⟩ := hgo
      have hltI : (i : Int) < 60 := by omega
      have hjI : (i : Int) < l.length := by omega
      obtain ⟨hp, hc, hlc, hll⟩ := HC.out
      have hpe := hp (by intro h; rw [h] at hj; simp at hj)
      subst hpe
      obtain ⟨_, _, _, _, cv, x4, x5⟩ := hc i hj
      have y4 := HS.out.old.cellOf x4
      have y5 := x5.same HS.out.old
      have hcl := hlc _ (List.getElem_mem hj)
      obtain ⟨ch, hch⟩ : ∃ ch, l[i].ch = ch := ⟨_, rfl⟩
      rw [hch] at y5 hcl x5
      have x6 := chs_lt x5
      have HP := Lib.hid (stand_put HS.out (by have := Nat.mul_le_mul (Nat.le_of_lt hlt) hn2; omega) ch cv y5 (fun hne q hq => .inl (x6 hne q hq)) hcl)
      clear hp hc hlc hll x4 x5 x6 y5 hcl hch
      go_wp2_with (fail)
      refine HP.out.mono ?_
      rintro e w5 ⟨rfl, hs5⟩
      have H5 := Lib.hid hs5
      clear hs5 HP
      go_wp2_with (fail)
      go_roundw
      case rel => exact ⟨i + 1, _, _, by omega, by go_num, by rw [Nat.succ_mul]; exact H5.out⟩
      case measure => simp [intOf]; omega
    · have hstop : (l.length : Int) ≤ i ∨ ((i : Int) < l.length ∧ (60 : Int) ≤ i) := by
        by_cases h1 : i < l.length
        · right
          have : ¬ i < 60 := fun h2 => hgo ⟨h1, h2⟩
          omega
        · left; omega
      obtain ⟨K, hK1, hK2, hK3, hK4, hK5⟩ := stand_all HS.out
      have HKY := Lib.hid (stand_keys HS.out 0 1073741824)
      rw [hK4] at HKY
      have HK := Lib.hid (And.intro hK1 (And.intro hK2 (And.intro hK3 hK5)))
      clear hK1 hK2 hK3 hK4 hK5 hgo
      generalize l.length = LL at e1 hlI hstop ⊢
      rcases hstop with hst | ⟨hst, hst2⟩
      all_goals
        go_wp2_with (fail)
        refine HKY.out.mono ?_
        rintro e w5 ⟨kv, rfl, own, k5⟩
        obtain ⟨p5, c5, rfl⟩ := own_form own
        have H5 := Lib.hid (And.intro own (And.intro (HS.out.same k5) k5))
        clear own k5
        go_wp2_with (fail)
        obtain ⟨nn, hnn⟩ : ∃ nn : Nat, wrap64 (1 + bits BinOp.and IntKind.i64 sm 7) = (nn : Int) ∧ 1 ≤ nn ∧ nn ≤ 8 := ⟨(1 + sm % 8).toNat, by rw [and7]; unfold wrap64; omega, by omega, by omega⟩
        rw [hnn.1]
        have hnn1 : (1 : Int) ≤ nn := by omega
        have hnn8 : (nn : Int) ≤ 8 := by omega
        have HNN := Lib.hid hnn.2
        have hKlI : (K.length : Int) ≤ 2000 := by have := HK.out.2.1; omega
        clear hnn
        go_loopw [11, 12, 13] (fun v11 v12 v13 wx => ∃ (q h : Nat) (a : Int), q ≤ h ∧ h ≤ K.length ∧ v13 = I q ∧ v12 = I h ∧ v11 = I a ∧ Cut1 K a h ∧ 0 ≤ a ∧ a ≤ 2147483648 ∧ Kept [] w5 wx) (fun _ _ v13 _ => K.length + 1 - (intOf v13).toNat)
        case atStart => exact ⟨0, 0, 0, Nat.le_refl _, Nat.zero_le _, rfl, rfl, rfl, ⟨fun y hy => by simp at hy, fun y hy => by have := HK.out.2.2.1 y (by simpa using hy); omega⟩, by omega, by omega, Kept.refl _ _⟩
        case round =>
          obtain ⟨q, h, a, hqh, hhK, rfl, rfl, rfl, hcut, ha0, ha1, kx⟩ := hrel
          have hqI : (q : Int) ≤ K.length := by omega
          have hKA := stand_keys (H5.out.2.1.same kx) a nn
          rw [HK.out.2.2.2 a nn, cut_filter hcut, show ((nn : Int)).toNat = nn from rfl] at hKA
          obtain ⟨Lq, hLq⟩ : ∃ Lq, (K.drop h).take nn = Lq := ⟨_, rfl⟩
          have hLl : Lq.length = min nn (K.length - h) := by rw [← hLq, List.length_take, List.length_drop]
          rw [hLq] at hKA
          have HKA := Lib.hid hKA
          have HX := Lib.hid (And.intro hcut (And.intro hLq (And.intro hLl (And.intro kx (And.intro hqh hhK)))))
          have hLI : (Lq.length : Int) ≤ nn := by omega
          have hdl : decide (nn < Lq.length) = false := decide_eq_false (by omega)
          clear hcut hKA hLq hLl kx hqh hhK
          go_wp2_with (fail)
          refine HKA.out.mono ?_
          rintro e w6 ⟨lv, rfl, own6, k6⟩
          obtain ⟨p6, c6, rfl⟩ := own_form own6
          have H6 := Lib.hid (And.intro own6 (HX.out.2.2.2.1.trans' k6))
          clear own6 k6 HKA
          go_wp2_with (fail)
          go_loopw [11, 12, 15] (fun v11 v12 v15 wy => Kept [] w6 wy ∧ ∃ (k : Nat) (a' : Int), k ≤ Lq.length ∧ v15 = I k ∧ v12 = I (h + k : Nat) ∧ v11 = I a' ∧ Cut1 K a' (h + k) ∧ 0 ≤ a' ∧ a' ≤ 2147483648) (fun _ _ v15 _ => Lq.length - (intOf v15).toNat)
          case atStart => exact ⟨Kept.refl _ _, 0, a, Nat.zero_le _, rfl, rfl, rfl, HX.out.1, ha0, ha1⟩
          case round =>
            obtain ⟨hwy, k, a', hk, rfl, rfl, rfl, hcut, hb0, hb1⟩ := hrel
            by_cases hlt : k < Lq.length
            · have hltI : (k : Int) < Lq.length := by omega
              obtain ⟨hcut0, hLq, hLl, kx, hqh, hhK⟩ := HX.out
              have hhk : h + k < K.length := by omega
              obtain ⟨hcn, hax⟩ := cut_next HK.out.1 hhk hcut
              have hxr := HK.out.2.2.1 K[h + k] (List.getElem_mem hhk)
              obtain ⟨g6, c6', e6, _, hc6⟩ := row_cells1 (own_kept H6.out.1 hwy (by simp)) (by omega)
              obtain ⟨g5, c5', e5, _, hc5⟩ := row_cells1 (own_kept H5.out.1 (H6.out.2.trans' hwy) (by simp)) (by omega)
              cases e6
              cases e5
              have d6 := hc6 k hlt
              have d5 := hc5 (h + k) hhk
              rw [List.getElem?_map, ← hLq, List.getElem?_take_of_lt (by omega), List.getElem?_drop, List.getElem?_eq_getElem hhk] at d6
              rw [List.getElem?_map, List.getElem?_eq_getElem hhk] at d5
              simp only [Option.map_some] at d5 d6
              obtain ⟨x, hx⟩ : ∃ x, K[h + k] = x := ⟨_, rfl⟩
              rw [hx] at d5 d6 hcn hax hxr
              obtain ⟨hq, hhq⟩ : ∃ hq, h + k = hq := ⟨_, rfl⟩
              rw [hhq] at d5 hcn hhk ⊢
              have hqI2 : (hq : Int) < K.length := by omega
              have hx1 : (1 : Int) ≤ x := hxr.1
              have hx2 : x ≤ 2147483647 := hxr.2
              have hd1 : decide ((K.length : Int) ≤ (hq : Int)) = false := decide_eq_false (by omega)
              have hd2 : decide (K.length ≤ hq) = false := decide_eq_false (by omega)
              have hd3 : decide (x < a') = false := decide_eq_false (by omega)
              have hnl : ¬ x < a' := by omega
              have hKn : hq < K.length := hhk
              have HN := Lib.hid (And.intro hcn (And.intro hhq (And.intro hx hwy)))
              clear hcut0 hLq hLl kx hqh hhK hcut hcn hax hxr hc5 hc6 hx hhq hb0 hb1 hwy
              go_wp2_with (fail)
              go_quiet (fail)
              go_wp2_with (fail)
              go_roundw
              case rel => exact ⟨HN.out.2.2.2.drewN _, k + 1, x + 1, by omega, by go_num, by have := HN.out.2.1; rw [← Nat.add_assoc, this]; go_num, rfl, by have h1 := HN.out.1; have h2 := HN.out.2.1; rw [← Nat.add_assoc, h2]; exact h1, by omega, by omega⟩
              case measure => simp [intOf]; omega
            · have hke : k = Lq.length := by omega
              subst hke
              have HE := Lib.hid (And.intro hcut (And.intro hb0 (And.intro hb1 hwy)))
              clear hcut hb0 hb1 hlt
              by_cases hz : Lq.length = 0
              · have hhe : h = K.length := by have := HX.out.2.2.1; have := HNN.out; have := HX.out.2.2.2.2.2; omega
                have hzI : (Lq.length : Int) = 0 := by omega
                have hheN : h + Lq.length = K.length := by omega
                rw [hheN, hz]
                have HF := Lib.hid (fun W' => fixed_any W')
                clear hheN hhe hz hzI
                go_wp2_with (fail)
                refine (HF.out _).mono ?_
                rintro e w7 ⟨rfl, k7⟩
                go_wp2_with (fail)
                go_ret
                exact ⟨rfl, ((K1.out.trans' HS.out.old).trans' (H5.out.2.2.trans' (H6.out.2.trans' HE.out.2.2.2))).trans' k7⟩
              · have hz0 : ¬ (Lq.length : Int) = 0 := by omega
                have hqb : (q : Int) ≤ 2000 := by omega
                go_wp2_with (fail)
                go_roundw
                case rel => exact ⟨q + 1, h + Lq.length, a', by have := HX.out.2.2.2.2.1; omega, by have := HX.out.2.2.1; have := HX.out.2.2.2.2.2; omega, by go_num, rfl, rfl, HE.out.1, HE.out.2.1, HE.out.2.2.1, H6.out.2.trans' HE.out.2.2.2⟩
                case measure => simp [intOf]; omega
end Go.Proofs.YtdkjlaldhohbmaaGreat
