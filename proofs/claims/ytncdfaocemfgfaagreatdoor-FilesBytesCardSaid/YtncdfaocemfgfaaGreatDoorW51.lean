/- Walks and lemmas on the program of this seat, used by its statements; each theorem bears its own conditions. -/
import Derived.Test.YtncdfaocemfgfaaGreatDoorW50
import Derived.Test.YtncdfaocemfgfaaGreatDoorCards
import Derived.Test.YtncdfaocemfgfaaGreatDoorTie
import Derived.Handy
import Derived.OwnWalk
import Derived.Deep.AppendLies
import Derived.IntWalk
import Derived.Deep.CutRange
import Derived.Deep.RegionHeld3
import Derived.Deep.RegionLaw
import Derived.Maps.OwnSet
import Derived.Maps.Range
import Derived.Laws.IdiomCopy
import Derived.Lib.LaidU8T
import Derived.Lib.LaidIn
import Derived.PinnedBridge
import Derived.ProofKit
import Derived.OpenShut
import Derived.Deep.DeepHandedRow
import Derived.Deep.DeepWitnessRowRef
import Derived.SliceStrings
import Derived.Lib.SmallJoins
namespace Go.Proofs.YtncdfaocemfgfaaGreatDoor
open Go.RowKit
set_option linter.unusedVariables false
set_option linter.unusedSimpArgs false
set_option linter.unusedSectionVars false
section
open Go.RowKit
set_option linter.unusedVariables false
set_option linter.unusedSimpArgs false
set_option maxHeartbeats 8000000
set_option maxRecDepth 100000
def EB (D : List UInt8) : List Nd := [⟨[[102]], 2, false, D⟩]
theorem pb_make : makeF 30 0 [] [47, 102] false = (0, 1, EB []) := by kernel_rfl
theorem pb_path : WX.pathF [47, 102] = some [[102]] := by kernel_rfl
theorem pb_file (D : List UInt8) : fileF (EB D) [47, 102] = (0, ⟨[[102]], 2, false, D⟩) := by
  unfold fileF
  rw [pb_path]
  rfl
theorem sumK_le3 (D i : Nat) : sumK D i ≤ 3 * i := by
  induction i with
  | zero => simp [sumK]
  | succ i ih => rw [sumK_succ]; have : pagesF (7 + min 128 (D - 128 * i)) ≤ 3 := by
                   unfold pagesF; split <;> omega
                 omega
theorem pb_weight (D : List UInt8) (h : D.length ≤ 1200) : wL (objL 1 (EB D)) ≤ quotaF 30 := by
  have e : objL 1 (EB D) = [((1 : Int), putN 4 2), (64, rowD (kids (EB D) []))] ++ objX (EB D) ⟨[[102]], 2, false, D⟩ := by
    unfold objL
    rw [if_neg (by decide), if_neg (by show ¬ [(([102] : Nm), 2)] = []; simp)]
    simp [EB]
  rw [e, wL_append, wX_is]
  have h1 : wL [((1 : Int), putN 4 2), (64, rowD (kids (EB D) []))] = 2 := by kernel_rfl
  have h2 : wF (rowX (EB D) ⟨[[102]], 2, false, D⟩) = 1 := by
    unfold rowX
    rw [if_neg (by simp)]
    unfold wF pagesF rowF
    rw [if_pos (by simp [putN_len])]
  have h3 := sumK_le3 D.length (cnt D.length)
  have h4 : cnt D.length ≤ 10 := by unfold cnt; omega
  have h5 : quotaF 30 = 91 := rfl
  rw [h1, h2, h5]
  show 2 + (1 + sumK D.length (cnt D.length)) ≤ 91
  omega
theorem pb_set (D D' : List UInt8) : setE (EB D) ⟨[[102]], 2, false, D'⟩ = EB D' := by
  unfold setE EB
  simp
theorem pb_write (D t : List UInt8) (a : Nat) (h1 : D.length ≤ 1200) (h2 : a ≤ D.length) (h3 : t.length ≤ 128) (h4 : a + t.length ≤ 1200) : writeF 30 1 (EB D) [47, 102] a t = (0, 1, EB (wrB D a t)) := by
  unfold writeF
  rw [pb_file]
  simp only
  rw [if_neg (by decide), if_neg (by omega), pb_set]
  unfold tryF
  rw [Int.toNat_natCast, if_pos (pb_weight _ (by rw [wrB_len _ _ _ h2]; omega))]
theorem pb_read (D : List UInt8) (a m : Nat) : readF (EB D) [47, 102] a m = ((D.drop a).take m, 0) := by
  unfold readF
  rw [pb_file]
  simp only
  rw [if_neg (by decide), if_neg (by omega), Int.toNat_natCast, Int.toNat_natCast]
theorem pb_all (D : List UInt8) (h : D.length ≤ 1200) : readF (EB D) [47, 102] 0 5000 = (D, 0) := by
  have := pb_read D 0 5000
  rw [List.drop_zero, List.take_of_length_le (by omega)] at this
  exact this
theorem pb_trunc (D : List UInt8) (a : Nat) (h1 : D.length ≤ 1200) (h2 : a ≤ D.length) : truncF 30 1 (EB D) [47, 102] a = (0, 1, EB (D.take a)) := by
  unfold truncF
  rw [pb_file]
  simp only
  rw [if_neg (by decide), if_neg (by omega), pb_set]
  unfold tryF
  rw [Int.toNat_natCast, if_pos (pb_weight _ (by rw [List.length_take]; omega))]
theorem mask64 (n : Int) (m : Int) (j : Nat) (hj : j ≤ 40) (hm : (BitVec.ofInt 64 m).toNat = 2 ^ j - 1) : bits .and .i64 n m = n % ((2 ^ j : Nat) : Int) := by
  have key : (BitVec.ofInt 64 n &&& BitVec.ofInt 64 m).toNat = (n % ((2 ^ 64 : Nat) : Int)).toNat % 2 ^ j := by
    rw [BitVec.toNat_and, BitVec.toNat_ofInt, hm, Nat.and_two_pow_sub_one_eq_mod]
  show IntKind.i64.wrap ((BitVec.ofInt 64 n &&& BitVec.ofInt 64 m).toNat : Nat) = n % ((2 ^ j : Nat) : Int)
  have hp : (2 ^ 64 : Nat) = 2 ^ j * 2 ^ (64 - j) := by rw [← Nat.pow_add]; congr 1; omega
  have hlt : (n % ((2 ^ 64 : Nat) : Int)).toNat % 2 ^ j < 2 ^ 40 := Nat.lt_of_lt_of_le (Nat.mod_lt _ (Nat.two_pow_pos j)) (Nat.pow_le_pow_right (by decide) hj)
  have hv : (((n % ((2 ^ 64 : Nat) : Int)).toNat % 2 ^ j : Nat) : Int) = n % ((2 ^ j : Nat) : Int) := by
    rw [Int.natCast_emod, Int.toNat_of_nonneg (Int.emod_nonneg _ (by decide)), hp, Int.natCast_mul, Int.emod_emod_of_dvd]
    exact Int.dvd_mul_right _ _
  rw [key, IntKind.wrap_i64, ← hv]
  omega
theorem and63 (n : Int) : bits .and .i64 n 63 = n % 64 := mask64 n 63 6 (by decide) (by decide)
theorem wrB_past {D t : List UInt8} {a : Nat} (h : ¬ ((a : Int) + t.length < D.length)) : wrB D a t = D.take a ++ t := by
  unfold wrB
  rw [List.drop_of_length_le (by omega), List.append_nil]
theorem wrB_in (D t : List UInt8) (a : Nat) : wrB D a t = D.take a ++ (t ++ D.drop (a + t.length)) := by
  unfold wrB
  rw [List.append_assoc]
/-- Texts of any number. -/
def TxAt (w : World) (v : Value) (ss : List Nm) : Prop :=
  ∃ (p : Option Addr) (cap : Nat), v = .slice p ss.length cap ∧ ss.length ≤ cap ∧ ss.length ≤ 9223372036854775807 ∧ (ss ≠ [] → ∃ b off, p = some ⟨b, off, none⟩ ∧ ∀ (i : Nat), i < ss.length → w.cell? ⟨b, off + i, none⟩ = some (S (ss.getD i [])))
set_option maxHeartbeats 8000000 in
theorem bytesLaw_any (w : World) (U : List Nat) (hU : TabsU w U) (lv : Value) (l : List (List UInt8)) (hl : TxAt w lv l) (hll : ∀ s ∈ l, s.length ≤ 4611686018427387904) (bk at0 n0 : Int) (hb : I64 bk) (ha : I64 at0) (hn : I64 n0) :
    Calls Tryz.prog 3 #[.agg #[lv, I bk, I at0, I n0]] w fun e w' => e = .returned (.bool true) ∧ Kept [] w w' := by
  obtain ⟨lp, lc, rfl, hlc, hl47, hcells⟩ := hl
  obtain ⟨W, hW⟩ : ∃ W, w.alloc (.cells #[.slice lp l.length lc, I bk, I at0, I n0] 24) = W := ⟨_, rfl⟩
  have k0 : Kept [] w W := by rw [← hW]; exact (Kept.refl _ _).alloc _
  have hnew := heap_new w (.cells #[.slice lp l.length lc, I bk, I at0, I n0] 24)
  rw [hW] at hnew
  obtain ⟨ob, hob⟩ : ∃ ob, w.heap.size = ob := ⟨_, rfl⟩
  rw [hob] at hnew
  have c0 := cell_at hnew 0
  have c1 := cell_at hnew 1
  have c2 := cell_at hnew 2
  have c3 := cell_at hnew 3
  simp only [List.getElem?_toArray, List.getElem?_cons_zero, List.getElem?_cons_succ] at c0 c1 c2 c3
  have HLA := Lib.hid (fun W => laid16_any W 30)
  have hb30 : blk16 30 = 30 := rfl
  rw [hb30] at HLA
  have HU := Lib.hid (And.intro (hU.same k0) k0)
  have HC := Lib.hid (And.intro hcells hll)
  clear hU k0 hcells hll hb30 hnew
  have hlI : (l.length : Int) ≤ 9223372036854775807 := by omega
  go_enter Tryz.func3, Tryz.ntmps3
  go_wp2_with (simp only [hW, hob]; done)
  go_quiet (fail)
  go_wp2_with (fail)
  refine (HLA.out _).mono ?_
  intro e w2 hla
  obtain ⟨W1, hW1⟩ : ∃ W1, W.drewN nq = W1 := ⟨_, rfl⟩
  rw [hW1] at hla
  have k1 : Kept [] W W1 := by rw [← hW1]; exact (Kept.refl _ _).drewN _
  obtain ⟨fb, ff, mb, sb, rfl, hs, _⟩ := laid_lf hla (HU.out.1.same k1)
  have HM := Lib.hid (lf_make hs (by omega) (by omega) (by omega) [47, 102] (by decide))
  rw [pb_make] at HM
  have HK := Lib.hid (HU.out.2.trans' k1)
  have HUU := Lib.hid (HU.out.1.same k1)
  clear hla HLA hs hW1 k1 HU c0 c1 c2 c3
  go_wp2_with (fail)
  refine HM.out.mono ?_
  rintro e w3 ⟨rfl, hs, _⟩
  have H3 := Lib.hid hs
  clear hs HM hW hob
  go_wp2_with (fail)
  go_loopw [10, 11] (fun v10 v11 wr => ∃ (i : Nat) (D : List UInt8), v11 = I i ∧ i ≤ 40 ∧ v10 = S D ∧ D.length ≤ 1200 ∧ Lf W1 wr ff fb sb 30 (62 * (i + 1)) 1 (EB D) [mb]) (fun _ v11 _ => 40 - (intOf v11).toNat)
  case atStart => exact ⟨0, [], rfl, by omega, rfl, by simp, H3.out⟩
  case round =>
    obtain ⟨i, D, rfl, hi, rfl, hD, hs⟩ := hrel
    have HS := Lib.hid hs
    have hDI : (D.length : Int) ≤ 1200 := by omega
    clear hs H3
    by_cases hil : i < l.length
    · have hilI : (i : Int) < l.length := by omega
      by_cases hi40 : i < 40
      · have hi40I : (i : Int) < 40 := by omega
        obtain ⟨b, off, rfl, hc⟩ := HC.out.1 (by intro h; rw [h] at hil; simp at hil)
        have hk := HK.out.trans' HS.out.old
        have hx := hk.cellOf (hc i hil)
        have hsl := HC.out.2 (l.getD i []) (by rw [List.getD_eq_getElem?_getD, List.getElem?_eq_getElem hil]; exact List.getElem_mem hil)
        obtain ⟨s, hs⟩ : ∃ s, l.getD i [] = s := ⟨_, rfl⟩
        rw [hs] at hx hsl
        obtain ⟨m0, hm0⟩ : ∃ m0, min s.length 128 = m0 := ⟨_, rfl⟩
        have hm1 : (min (s.length : Int) 128).toNat = m0 := by omega
        obtain ⟨t, ht⟩ : ∃ t, s.take m0 = t := ⟨_, rfl⟩
        have htl : t.length ≤ 128 := by rw [← ht, List.length_take]; omega
        have hslI : (s.length : Int) ≤ 4611686018427387904 := by omega
        have htI : (t.length : Int) ≤ 128 := by omega
        obtain ⟨q, hq⟩ : ∃ q : Nat, bits BinOp.and IntKind.i64 bk 63 = (q : Int) := ⟨(bk % 64).toNat, by rw [and63]; omega⟩
        obtain ⟨a, ha2⟩ : ∃ a : Nat, IntKind.i64.wrap ((D.length : Int) - min (q : Int) D.length) = (a : Int) := ⟨D.length - min q D.length, by rw [IntKind.wrap_i64]; omega⟩
        have hal : a ≤ D.length := by rw [IntKind.wrap_i64] at ha2; omega
        have haI : (a : Int) ≤ D.length := by omega
        clear hs hc hk hm0
        by_cases hbr : D.length + t.length ≤ 1200
        · have hbrI : (D.length : Int) + t.length ≤ 1200 := by omega
          have HW := Lib.hid (fun W (k : Kept [] wr W) => lf_write (HS.out.same k) (by omega) (by omega) (by omega) [47, 102] (by decide) a ⟨by omega, by omega⟩ t (by omega))
          rw [pb_write D t a hD hal htl (by omega)] at HW
          go_wp2_with (fail)
          go_quiet (fail)
          go_wp2_with (fail)
          refine (HW.out _ ((Kept.refl _ _).drewN _)).mono ?_
          rintro e w5 ⟨rfl, hs, _⟩
          have H5 := Lib.hid hs
          clear hs HW
          have hwl := wrB_len D t a hal
          have h62 : 62 * (i + 1) + 2 * (30 + 1) = 62 * (i + 1 + 1) := by omega
          rw [h62] at H5
          by_cases hlong : (a : Int) + t.length < D.length
          · go_wp2_with (fail)
            go_roundw
            case rel => exact ⟨i + 1, wrB D a t, by go_num, by omega, by rw [wrB_in], by omega, H5.out⟩
            case measure => simp [intOf]; omega
          · go_wp2_with (fail)
            go_roundw
            case rel => exact ⟨i + 1, wrB D a t, by go_num, by omega, by rw [wrB_past (by omega)], by omega, H5.out⟩
            case measure => simp [intOf]; omega
        · have hbrI : ¬ (D.length : Int) + t.length ≤ 1200 := by omega
          go_wp2_with (fail)
          go_quiet (fail)
          obtain ⟨A, hA⟩ : ∃ A : Nat, max 0 (min at0 2000) = (A : Int) := ⟨(max 0 (min at0 2000)).toNat, by omega⟩
          obtain ⟨N, hN⟩ : ∃ N : Nat, max 0 (min n0 2000) = (N : Int) := ⟨(max 0 (min n0 2000)).toNat, by omega⟩
          have hAI : (A : Int) ≤ 2000 := by omega
          have hNI : (N : Int) ≤ 2000 := by omega
          obtain ⟨C, hC⟩ : ∃ C : Nat, min (A : Int) D.length = (C : Int) := ⟨min A D.length, by omega⟩
          have hCl : C ≤ D.length := by omega
          have hCI : (C : Int) ≤ D.length := by omega
          obtain ⟨Wt, hWt⟩ : ∃ Wt, D.drop C = Wt := ⟨_, rfl⟩
          have hWl : Wt.length = D.length - C := by rw [← hWt, List.length_drop]
          have hWI : (Wt.length : Int) ≤ 1200 := by omega
          obtain ⟨P, hP⟩ : ∃ P : Nat, min (N : Int) Wt.length = (P : Int) := ⟨min N Wt.length, by omega⟩
          have hPl : P ≤ Wt.length := by omega
          have hPI : (P : Int) ≤ Wt.length := by omega
          have hRd : (D.drop A).take N = Wt.take P := by
            rw [← hWt]
            rcases Nat.lt_or_ge D.length A with h | h
            · have e : C = D.length := by omega
              rw [List.drop_of_length_le (by omega), e, List.drop_length, List.take_nil, List.take_nil]
            · have e : C = A := by omega
              subst e
              rcases Nat.lt_or_ge Wt.length N with h2 | h2
              · have e : P = Wt.length := by omega
                rw [e, hWl, List.take_of_length_le (by rw [List.length_drop]; omega), List.take_of_length_le (by rw [List.length_drop]; omega)]
              · have e : P = N := by omega
                rw [e]
          have HR1 := Lib.hid (fun W (k : Kept [] wr W) => lf_read (HS.out.same k) [47, 102] (by decide) 0 5000 ⟨by decide, by decide⟩ ⟨by decide, by decide⟩)
          rw [pb_all D hD] at HR1
          have HR2 := Lib.hid (fun W (k : Kept [] wr W) => lf_read (HS.out.same k) [47, 102] (by decide) A N ⟨by omega, by omega⟩ ⟨by omega, by omega⟩)
          rw [pb_read, hRd] at HR2
          obtain ⟨RR, hRR⟩ : ∃ RR, Wt.take P = RR := ⟨_, rfl⟩
          rw [hRR] at HR2
          have HT := Lib.hid (fun W (k : Kept [] wr W) => lf_trunc (HS.out.same k) (by omega) (by omega) (by omega) [47, 102] (by decide) C ⟨by omega, by omega⟩)
          rw [pb_trunc D C hD hCl] at HT
          have HDC := Lib.hid (And.intro hD hCl)
          clear hRd hWl
          go_wp2_with (fail)
          refine (HR1.out _ ((Kept.refl _ _).drewN _)).mono ?_
          rintro e w5 ⟨rfl, k5⟩
          have K5 := Lib.hid (((Kept.refl _ _).drewN _).trans' k5)
          clear k5 HR1
          go_wp2_with (fail)
          refine (HR2.out _ K5.out).mono ?_
          rintro e w6 ⟨rfl, k6⟩
          have K6 := Lib.hid (K5.out.trans' k6)
          clear k6 HR2 K5
          go_wp2_with (fail)
          refine (HT.out _ K6.out).mono ?_
          rintro e w7 ⟨rfl, hs, _⟩
          have HR3 := Lib.hid (lf_read hs [47, 102] (by decide) 0 5000 ⟨by decide, by decide⟩ ⟨by decide, by decide⟩)
          rw [pb_all (D.take C) (by rw [List.length_take]; omega)] at HR3
          obtain ⟨DC, hDC⟩ : ∃ DC, D.take C = DC := ⟨_, rfl⟩
          rw [hDC] at HR3
          have H7 := Lib.hid hs
          clear hs HT K6
          go_wp2_with (fail)
          refine HR3.out.mono ?_
          rintro e w8 ⟨rfl, k8⟩
          have H8 := Lib.hid (H7.out.same k8)
          clear k8 HR3 H7
          obtain ⟨U8, hU8⟩ := H8.out.tabs
          have HF := Lib.hid (fixed16_any w8 U8 hU8)
          go_wp2_with (fail)
          refine HF.out.mono ?_
          rintro e w9 ⟨rfl, k9⟩
          have HKK := Lib.hid ((HK.out.trans' H8.out.old).trans' k9)
          clear k9 HF hU8
          go_wp2_with (fail)
          go_ret
          exact ⟨rfl, HKK.out⟩
      · have hi40I : ¬ (i : Int) < 40 := by omega
        obtain ⟨A, hA⟩ : ∃ A : Nat, max 0 (min at0 2000) = (A : Int) := ⟨(max 0 (min at0 2000)).toNat, by omega⟩
        obtain ⟨N, hN⟩ : ∃ N : Nat, max 0 (min n0 2000) = (N : Int) := ⟨(max 0 (min n0 2000)).toNat, by omega⟩
        have hAI : (A : Int) ≤ 2000 := by omega
        have hNI : (N : Int) ≤ 2000 := by omega
        obtain ⟨C, hC⟩ : ∃ C : Nat, min (A : Int) D.length = (C : Int) := ⟨min A D.length, by omega⟩
        have hCl : C ≤ D.length := by omega
        have hCI : (C : Int) ≤ D.length := by omega
        obtain ⟨Wt, hWt⟩ : ∃ Wt, D.drop C = Wt := ⟨_, rfl⟩
        have hWl : Wt.length = D.length - C := by rw [← hWt, List.length_drop]
        have hWI : (Wt.length : Int) ≤ 1200 := by omega
        obtain ⟨P, hP⟩ : ∃ P : Nat, min (N : Int) Wt.length = (P : Int) := ⟨min N Wt.length, by omega⟩
        have hPl : P ≤ Wt.length := by omega
        have hPI : (P : Int) ≤ Wt.length := by omega
        have hRd : (D.drop A).take N = Wt.take P := by
          rw [← hWt]
          rcases Nat.lt_or_ge D.length A with h | h
          · have e : C = D.length := by omega
            rw [List.drop_of_length_le (by omega), e, List.drop_length, List.take_nil, List.take_nil]
          · have e : C = A := by omega
            subst e
            rcases Nat.lt_or_ge Wt.length N with h2 | h2
            · have e : P = Wt.length := by omega
              rw [e, hWl, List.take_of_length_le (by rw [List.length_drop]; omega), List.take_of_length_le (by rw [List.length_drop]; omega)]
            · have e : P = N := by omega
              rw [e]
        have HR1 := Lib.hid (fun W (k : Kept [] wr W) => lf_read (HS.out.same k) [47, 102] (by decide) 0 5000 ⟨by decide, by decide⟩ ⟨by decide, by decide⟩)
        rw [pb_all D hD] at HR1
        have HR2 := Lib.hid (fun W (k : Kept [] wr W) => lf_read (HS.out.same k) [47, 102] (by decide) A N ⟨by omega, by omega⟩ ⟨by omega, by omega⟩)
        rw [pb_read, hRd] at HR2
        obtain ⟨RR, hRR⟩ : ∃ RR, Wt.take P = RR := ⟨_, rfl⟩
        rw [hRR] at HR2
        have HT := Lib.hid (fun W (k : Kept [] wr W) => lf_trunc (HS.out.same k) (by omega) (by omega) (by omega) [47, 102] (by decide) C ⟨by omega, by omega⟩)
        rw [pb_trunc D C hD hCl] at HT
        have HDC := Lib.hid (And.intro hD hCl)
        clear hRd hWl
        go_wp2_with (fail)
        refine (HR1.out _ (Kept.refl _ _)).mono ?_
        rintro e w5 ⟨rfl, k5⟩
        have K5 := Lib.hid ((Kept.refl _ _).trans' k5)
        clear k5 HR1
        go_wp2_with (fail)
        refine (HR2.out _ K5.out).mono ?_
        rintro e w6 ⟨rfl, k6⟩
        have K6 := Lib.hid (K5.out.trans' k6)
        clear k6 HR2 K5
        go_wp2_with (fail)
        refine (HT.out _ K6.out).mono ?_
        rintro e w7 ⟨rfl, hs, _⟩
        have HR3 := Lib.hid (lf_read hs [47, 102] (by decide) 0 5000 ⟨by decide, by decide⟩ ⟨by decide, by decide⟩)
        rw [pb_all (D.take C) (by rw [List.length_take]; omega)] at HR3
        obtain ⟨DC, hDC⟩ : ∃ DC, D.take C = DC := ⟨_, rfl⟩
        rw [hDC] at HR3
        have H7 := Lib.hid hs
        clear hs HT K6
        go_wp2_with (fail)
        refine HR3.out.mono ?_
        rintro e w8 ⟨rfl, k8⟩
        have H8 := Lib.hid (H7.out.same k8)
        clear k8 HR3 H7
        obtain ⟨U8, hU8⟩ := H8.out.tabs
        have HF := Lib.hid (fixed16_any w8 U8 hU8)
        go_wp2_with (fail)
        refine HF.out.mono ?_
        rintro e w9 ⟨rfl, k9⟩
        have HKK := Lib.hid ((HK.out.trans' H8.out.old).trans' k9)
        clear k9 HF hU8
        go_wp2_with (fail)
        go_ret
        exact ⟨rfl, HKK.out⟩
    · have hilI : ¬ (i : Int) < l.length := by omega
      obtain ⟨A, hA⟩ : ∃ A : Nat, max 0 (min at0 2000) = (A : Int) := ⟨(max 0 (min at0 2000)).toNat, by omega⟩
      obtain ⟨N, hN⟩ : ∃ N : Nat, max 0 (min n0 2000) = (N : Int) := ⟨(max 0 (min n0 2000)).toNat, by omega⟩
      have hAI : (A : Int) ≤ 2000 := by omega
      have hNI : (N : Int) ≤ 2000 := by omega
      obtain ⟨C, hC⟩ : ∃ C : Nat, min (A : Int) D.length = (C : Int) := ⟨min A D.length, by omega⟩
      have hCl : C ≤ D.length := by omega
      have hCI : (C : Int) ≤ D.length := by omega
      obtain ⟨Wt, hWt⟩ : ∃ Wt, D.drop C = Wt := ⟨_, rfl⟩
      have hWl : Wt.length = D.length - C := by rw [← hWt, List.length_drop]
      have hWI : (Wt.length : Int) ≤ 1200 := by omega
      obtain ⟨P, hP⟩ : ∃ P : Nat, min (N : Int) Wt.length = (P : Int) := ⟨min N Wt.length, by omega⟩
      have hPl : P ≤ Wt.length := by omega
      have hPI : (P : Int) ≤ Wt.length := by omega
      have hRd : (D.drop A).take N = Wt.take P := by
        rw [← hWt]
        rcases Nat.lt_or_ge D.length A with h | h
        · have e : C = D.length := by omega
          rw [List.drop_of_length_le (by omega), e, List.drop_length, List.take_nil, List.take_nil]
        · have e : C = A := by omega
          subst e
          rcases Nat.lt_or_ge Wt.length N with h2 | h2
          · have e : P = Wt.length := by omega
            rw [e, hWl, List.take_of_length_le (by rw [List.length_drop]; omega), List.take_of_length_le (by rw [List.length_drop]; omega)]
          · have e : P = N := by omega
            rw [e]
      have HR1 := Lib.hid (fun W (k : Kept [] wr W) => lf_read (HS.out.same k) [47, 102] (by decide) 0 5000 ⟨by decide, by decide⟩ ⟨by decide, by decide⟩)
      rw [pb_all D hD] at HR1
      have HR2 := Lib.hid (fun W (k : Kept [] wr W) => lf_read (HS.out.same k) [47, 102] (by decide) A N ⟨by omega, by omega⟩ ⟨by omega, by omega⟩)
      rw [pb_read, hRd] at HR2
      obtain ⟨RR, hRR⟩ : ∃ RR, Wt.take P = RR := ⟨_, rfl⟩
      rw [hRR] at HR2
      have HT := Lib.hid (fun W (k : Kept [] wr W) => lf_trunc (HS.out.same k) (by omega) (by omega) (by omega) [47, 102] (by decide) C ⟨by omega, by omega⟩)
      rw [pb_trunc D C hD hCl] at HT
      have HDC := Lib.hid (And.intro hD hCl)
      clear hRd hWl
      go_wp2_with (fail)
      refine (HR1.out _ (Kept.refl _ _)).mono ?_
      rintro e w5 ⟨rfl, k5⟩
      have K5 := Lib.hid ((Kept.refl _ _).trans' k5)
      clear k5 HR1
      go_wp2_with (fail)
      refine (HR2.out _ K5.out).mono ?_
      rintro e w6 ⟨rfl, k6⟩
      have K6 := Lib.hid (K5.out.trans' k6)
      clear k6 HR2 K5
      go_wp2_with (fail)
      refine (HT.out _ K6.out).mono ?_
      rintro e w7 ⟨rfl, hs, _⟩
      have HR3 := Lib.hid (lf_read hs [47, 102] (by decide) 0 5000 ⟨by decide, by decide⟩ ⟨by decide, by decide⟩)
      rw [pb_all (D.take C) (by rw [List.length_take]; omega)] at HR3
      obtain ⟨DC, hDC⟩ : ∃ DC, D.take C = DC := ⟨_, rfl⟩
      rw [hDC] at HR3
      have H7 := Lib.hid hs
      clear hs HT K6
      go_wp2_with (fail)
      refine HR3.out.mono ?_
      rintro e w8 ⟨rfl, k8⟩
      have H8 := Lib.hid (H7.out.same k8)
      clear k8 HR3 H7
      obtain ⟨U8, hU8⟩ := H8.out.tabs
      have HF := Lib.hid (fixed16_any w8 U8 hU8)
      go_wp2_with (fail)
      refine HF.out.mono ?_
      rintro e w9 ⟨rfl, k9⟩
      have HKK := Lib.hid ((HK.out.trans' H8.out.old).trans' k9)
      clear k9 HF hU8
      go_wp2_with (fail)
      go_ret
      exact ⟨rfl, HKK.out⟩
end
section
open Go.RowKit
set_option linter.unusedVariables false
set_option linter.unusedSimpArgs false
section
open Go.ChangeShapes Go.WideShapes Go.Deep Go.Joins
variable {H : Type} {enc : TypeId × Value → H} {P : Program} {w : World} {base : Nat} {spare : Nat → Bool} {held : Bool}
theorem open_agg_any {r : Reach} {b0 : Nat} {t : TypeId} {fs : Array Field} {v : Value} {d : DataW H} {p : List MemPlace} (hs : P.underlying t = some (.struct fs)) (hone : oneCellFields P fs = true) (hC : P.cellsOf t = fs.size)
    (hv : Value.okWide P w r b0 t v) (h : DataW.Trod enc P w base spare held t v d p) :
    ∃ (cs : Array Value) (ys : List (DataW H × List MemPlace)) (n : Nat), v = .agg cs ∧ cs.size = fs.size ∧ d = .agg (ys.map (·.1)) ∧ ys.length = fs.size ∧
      ∀ (j : Nat) (f : Field), fs[j]? = some f → ∃ u y, cs[j]? = some u ∧ ys[j]? = some y ∧ DataW.trod enc P w base spare held n f.type [u] = some y := by
  obtain ⟨cs, rfl, hsz⟩ := okWide_struct hs hv
  obtain ⟨fuel, hf⟩ := h
  obtain ⟨xs, n, _, hx, _, hlen, hg⟩ := DataW.trod_struct hs hf
  simp only [Prod.mk.injEq] at hx
  refine ⟨cs, xs, n, rfl, hsz.trans hC, hx.1, hlen, fun j f hj => ?_⟩
  obtain ⟨ho, hk⟩ := hone_of hone j f hj
  have hjl : j < fs.size := (Array.getElem?_eq_some_iff.1 hj).1
  have hsz' : cs.size = fs.size := hsz.trans hC
  have h1 := hg j f hj
  rw [ho, hk] at h1
  have hl : (Value.agg cs).cells = cs := by simp [Value.cells]
  rw [hl] at h1
  have hone' : (cs.toList.drop j).take 1 = [cs[j]'(by omega)] := by
    rw [List.drop_eq_getElem_cons (by simpa using (by omega : j < cs.size))]
    simp
  rw [hone'] at h1
  have hys : xs[j]? = some (xs[j]'(by omega)) := List.getElem?_eq_getElem (by omega)
  exact ⟨_, _, Array.getElem?_eq_getElem (by omega), hys, h1.trans hys⟩
end
open Go.Lib Go.ChangeShapes Go.WideShapes Go.ChangeAt
theorem own : ownKnob Tryz.prog.godebug = none := by kernel_rfl
theorem laidOut : laidOutB Tryz.prog = true := by kernel_rfl
noncomputable def laidWorld (os : Os) : World :=
  let w0 := World.holding Tryz.prog os ⟨#[], #[], []⟩
  let put (h : Array Obj) (g : Nat) (cs : Array Value) : Array Obj := h.modify g fun
    | .cells _ t frozen => .cells cs t frozen
    | o => o
  let h4 := put w0.heap 1 (Lib.firstTab.map fun z => Value.int .u8 z).toArray
  let h5 := put h4 2 ((List.range 16).flatMap fun i => [Value.int .u8 (Lib.accLo i), Value.int .u8 (Lib.accHi i)]).toArray
  { w0 with heap := h5 }
theorem laid_a (os : Os) (args : Array Value) : LaidIn Tryz.prog ((laidWorld os).forCall (fun _ _ => 0) ⟨#[], args, []⟩).memory [("unicode/utf8.acceptRanges", Rows.laid_unicode_utf8_acceptRanges)] [2] :=
  LaidIn.of_run _ 10 (by kernel_rfl) (by kernel_rfl) (by kernel_rfl) (by kernel_rfl)
theorem laid_b (os : Os) (args : Array Value) : LaidIn Tryz.prog ((laidWorld os).forCall (fun _ _ => 0) ⟨#[], args, []⟩).memory [("unicode/utf8.first", Rows.laid_unicode_utf8_first)] [1] :=
  LaidIn.of_run _ 10 (by kernel_rfl) (by kernel_rfl) (by kernel_rfl) (by kernel_rfl)
theorem laid_met (os : Os) (args : Array Value) : laidMet Tryz.prog [("unicode/utf8.acceptRanges", Rows.laid_unicode_utf8_acceptRanges), ("unicode/utf8.first", Rows.laid_unicode_utf8_first)] ((laidWorld os).forCall (fun _ _ => 0) ⟨#[], args, []⟩).memory :=
  (LaidIn.append (laid_a os args) (laid_b os args) (by kernel_rfl)).met
theorem accept_data : (Rows.laid_unicode_utf8_acceptRanges : DataW Unit) = acceptData := by kernel_rfl
theorem tabs_of_laid {W : World} (h : laidMetH Tryz.prog [("unicode/utf8.acceptRanges", Rows.laid_unicode_utf8_acceptRanges), ("unicode/utf8.first", Rows.laid_unicode_utf8_first)] W) (hs : W.ShapedOpen Tryz.prog) : Tabs W := by
  refine ⟨?_, Tryz.laysM146.s1_3 W hs⟩
  have h1 := Lib.laidMet.reads h (.head _)
  have h2 := Lib.laidMet.reads h (.tail _ (.head _))
  rw [accept_data] at h1
  rw [show Rows.laid_unicode_utf8_first = firstData from Pinned.utf8First_eq] at h2
  exact utf8Tabs_of_readsT (U8Types.of196 Tryz.lays196) ⟨by kernel_rfl, by kernel_rfl, by kernel_rfl, by kernel_rfl, by kernel_rfl, by kernel_rfl, by kernel_rfl⟩ h2 h1
theorem cells_str : Tryz.prog.cellsOf 9 = 1 := by kernel_rfl
theorem int_lo {x : Int} (h : (Lit.int .i64 x).wf = true) : -9223372036854775808 ≤ x := by have h1 : IntKind.i64.min = -9223372036854775808 := rfl; simp [Lit.wf] at h; omega
theorem int_hi {x : Int} (h : (Lit.int .i64 x).wf = true) : x ≤ 9223372036854775807 := by have h1 : IntKind.i64.max = 9223372036854775807 := rfl; simp [Lit.wf] at h; omega
section
open Go.Lib Go.ChangeShapes Go.WideShapes Go.Deep Go.Joins Go.ChangeAt
variable {H : Type} {enc : TypeId × Value → H} {w : World} {base : Nat} {spare : Nat → Bool} {held : Bool}
theorem weightsAll_mem {P : Program} {e : TypeId} {d : DataW H} {n : Nat} (hn : n ∈ d.weights P e) : ∀ l : List (DataW H), d ∈ l → n ∈ DataW.weightsAll P e l
  | [], h => by cases h
  | x :: r, h => by
    simp only [DataW.weightsAll, List.mem_append]
    rcases List.mem_cons.1 h with rfl | h
    · exact .inl hn
    · exact .inr (weightsAll_mem hn r h)
theorem texts_of_trod2 {fuel : Nat} {v : Value} {x : DataW H × List MemPlace} (h : DataW.trod enc Tryz.prog w base spare held fuel 22 [v] = some x) :
    ∃ ss, TxAt w v ss ∧ ∀ s ∈ ss, s.length ∈ DataW.weights Tryz.prog 22 x.1 := by
  rcases open_strings Tryz.underlying22 Tryz.underlying9 cells_str h with ⟨hcs, hx⟩ | ⟨a, len, cap, ss, hcs, _, hl, hm, hz, hx, hcell, _⟩
  · simp at hcs; subst hcs
    exact ⟨[], ⟨none, 0, rfl, by simp, by simp, fun h => absurd rfl h⟩, by simp⟩
  · simp at hcs; subst hcs
    have hlen : len ≤ ss.length := by rw [hz]; split <;> omega
    have hsl : ((ss.take len).map (·.data.toList)).length = len := by simp; omega
    refine ⟨(ss.take len).map (·.data.toList), ⟨some a, cap, by rw [hsl], by rw [hsl]; exact hl, by rw [hsl]; unfold maxLen at hm; omega, fun hne => ?_⟩, fun s hs => ?_⟩
    · have hpos : 0 < len := by
        rcases Nat.eq_zero_or_pos len with h0 | h0
        · subst h0; simp at hne
        · exact h0
      obtain ⟨b, off, spot⟩ := a
      have hspot : spot = none := by simpa [Addr.add] using World.cell?_spot (hcell 0 (by omega))
      subst hspot
      refine ⟨b, off, rfl, fun i hi => ?_⟩
      rw [hsl] at hi
      have hc := hcell i (by omega)
      rw [Addr.add_lit] at hc
      have h1 : ((ss.take len).map (·.data.toList)).getD i [] = (ss.getD i ByteArray.empty).data.toList := by
        rw [List.getD_eq_getElem?_getD, List.getElem?_map, List.getElem?_take_of_lt hi, List.getD_eq_getElem?_getD]
        have : i < ss.length := by omega
        simp [this]
      rw [h1]
      show _ = some (Value.string ⟨(ss.getD i ByteArray.empty).data.toList.toArray⟩)
      rw [Lib.mk_data]; exact hc
    · obtain ⟨t, ht, rfl⟩ := List.mem_map.1 hs
      rw [hx]
      simp only [DataW.weights, Tryz.underlying22, List.mem_cons, List.mem_append]
      refine .inr (.inl (weightsAll_mem (d := .lit (.string t.data.toList)) (by simp [DataW.weights]) _ ?_))
      exact List.mem_map.2 ⟨t, ht, rfl⟩
theorem open_int1 {fuel : Nat} {u : Value} {x : DataW H × List MemPlace} (h : DataW.trod enc Tryz.prog w base spare held fuel 3 [u] = some x) : ∃ n, u = I n ∧ (Lit.int .i64 n).wf = true := by
  obtain ⟨n, e, _, hw⟩ := DataW.trod_int Tryz.underlying3 h
  exact ⟨n, by simpa using e, by first | exact hw.1 | exact hw | simpa using hw⟩
theorem four_cells {cs : Array Value} (h : cs.size = 4) : ∃ c0 c1 c2 c3, cs = #[c0, c1, c2, c3] := by
  obtain ⟨l⟩ := cs
  match l, h with
  | [c0, c1, c2, c3], _ => exact ⟨c0, c1, c2, c3, rfl⟩
theorem four_list {α : Type} {l : List α} (h : l.length = 4) : ∃ a b c d, l = [a, b, c, d] := by
  match l, h with
  | [a, b, c, d], _ => exact ⟨a, b, c, d, rfl⟩
set_option maxRecDepth 100000 in
theorem open_pieces {r : Reach} {b0 : Nat} {v : Value} {d : DataW H} {p : List MemPlace} (hv : Value.okWide Tryz.prog w r b0 24 v) (h : DataW.Trod enc Tryz.prog w base spare held 24 v d p) :
    ∃ (lv : Value) (ls : List (List UInt8)) (bk at0 n0 : Int), v = .agg #[lv, I bk, I at0, I n0] ∧ TxAt w lv ls ∧ I64 bk ∧ I64 at0 ∧ I64 n0 ∧ ∀ x ∈ ls, x.length ∈ d.weights Tryz.prog 24 := by
  obtain ⟨cs, ys, n, rfl, hsz, hd, hyl, hf⟩ := open_agg_any Tryz.underlying24 (by kernel_rfl) (by kernel_rfl) hv h
  obtain ⟨c0, c1, c2, c3, rfl⟩ := four_cells hsz
  obtain ⟨z0, z1, z2, z3, rfl⟩ := four_list (show ys.length = 4 from hyl)
  obtain ⟨u0, y0, e0, f0, t0⟩ := hf 0 _ rfl
  obtain ⟨u1, y1, e1, f1, t1⟩ := hf 1 _ rfl
  obtain ⟨u2, y2, e2, f2, t2⟩ := hf 2 _ rfl
  obtain ⟨u3, y3, e3, f3, t3⟩ := hf 3 _ rfl
  simp at e0 e1 e2 e3 f0 f1 f2 f3
  subst e0 e1 e2 e3 f0 f1 f2 f3
  obtain ⟨ls, hls, hw⟩ := texts_of_trod2 t0
  obtain ⟨b1, rfl, q1⟩ := open_int1 t1
  obtain ⟨b2, rfl, q2⟩ := open_int1 t2
  obtain ⟨b3, rfl, q3⟩ := open_int1 t3
  refine ⟨_, ls, b1, b2, b3, rfl, hls, ⟨int_lo q1, int_hi q1⟩, ⟨int_lo q2, int_hi q2⟩, ⟨int_lo q3, int_hi q3⟩, fun x hx => ?_⟩
  subst hd
  simp only [DataW.weights, Tryz.underlying24, List.map_cons, List.map_nil, DataW.weightsEach, List.mem_append]
  left; exact hw x hx
theorem sized_part {P : Program} {ts : List TypeId} {ds : List (DataW H)} {j : Nat} {t : TypeId} {d : DataW H} {n : Nat} (h : (DataW.weightsEach P ts ds).all (· ≤ reachBytes) = true) (ht : ts[j]? = some t) (hd : ds[j]? = some d) (hn : n ∈ d.weights P t) : n ≤ 4611686018427387904 := by
  have h1 := List.all_eq_true.1 h _ (DataW.weights_mem_each ht hd n hn)
  have h2 := reachBytes_lt
  simp at h1; omega
end
theorem TabsU.of {w : World} (h : Tabs w) : TabsU w [1, 2, 0] := by
  have hl : ∀ (p : Addr) (v : Value), w.cell? p = some v → p.block < w.heap.size := fun p v hc => World.block_lt_of_cell? w p hc
  refine ⟨h, fun x hx => ?_, fun T w' k hT => ?_⟩
  · simp only [List.mem_cons, List.not_mem_nil, or_false] at hx
    rcases hx with rfl | rfl | rfl
    · exact hl _ _ (h.u8.1 0 (by decide))
    · exact hl _ _ (h.u8.2 0 (by decide)).1
    · obtain ⟨m, hm⟩ := h.ml; exact hl _ _ hm
  · have n1 : 1 ∉ T := fun hm => hT _ hm (by simp)
    have n2 : 2 ∉ T := fun hm => hT _ hm (by simp)
    have n3 : 0 ∉ T := fun hm => hT _ hm (by simp)
    have hc : ∀ (p : Addr) (v : Value), w.cell? p = some v → p.block ∉ T → w'.cell? p = some v := fun p v h1 h2 => by rw [k.cell (hl p v h1) h2, h1]
    exact ⟨⟨fun c h1 => hc _ _ (h.u8.1 c h1) n1, fun i h1 => ⟨hc _ _ (h.u8.2 i h1).1 n2, hc _ _ (h.u8.2 i h1).2 n2⟩⟩, by obtain ⟨m, hm⟩ := h.ml; exact ⟨m, hc _ _ hm n3⟩⟩
end
end Go.Proofs.YtncdfaocemfgfaaGreatDoor
