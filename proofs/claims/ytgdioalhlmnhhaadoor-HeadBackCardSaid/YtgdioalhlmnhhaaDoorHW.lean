/- Walks and lemmas on the program of this seat, used by its statements; each theorem bears its own conditions. -/
import Derived.Test.YtgdioalhlmnhhaaDoorHU
import Derived.Handy
import Derived.Recover
import Derived.IntWalk
import Derived.Deep.CutRange
import Derived.OwnWalk
import Derived.Deep.AppendLies
import Derived.Deep.RegionLaw
import Derived.Deep.RegionHeld3
namespace Go.Proofs.YtgdioalhlmnhhaaDoor
open Go.RowKit
set_option linter.unusedVariables false
set_option linter.unusedSimpArgs false
set_option maxHeartbeats 8000000
set_option maxRecDepth 100000
/-! ### HeadBack -/
@[go_sem] theorem i64_and65535 (n : Int) : bits .and .i64 n 65535 = n % 65536 := by
  have h : (BitVec.ofInt 64 65535).toNat = 2 ^ 16 - 1 := by decide
  have key : (BitVec.ofInt 64 n &&& BitVec.ofInt 64 65535).toNat = (n % ((2 ^ 64 : Nat) : Int)).toNat % 2 ^ 16 := by
    rw [BitVec.toNat_and, BitVec.toNat_ofInt, h, Nat.and_two_pow_sub_one_eq_mod]
  show IntKind.i64.wrap ((BitVec.ofInt 64 n &&& BitVec.ofInt 64 65535).toNat : Nat) = n % 65536
  rw [key, IntKind.wrap_i64]
  omega
@[go_sem] theorem i64_and3 (n : Int) : bits .and .i64 n 3 = n % 4 := by
  have h : (BitVec.ofInt 64 3).toNat = 2 ^ 2 - 1 := by decide
  have key : (BitVec.ofInt 64 n &&& BitVec.ofInt 64 3).toNat = (n % ((2 ^ 64 : Nat) : Int)).toNat % 2 ^ 2 := by
    rw [BitVec.toNat_and, BitVec.toNat_ofInt, h, Nat.and_two_pow_sub_one_eq_mod]
  show IntKind.i64.wrap ((BitVec.ofInt 64 n &&& BitVec.ofInt 64 3).toNat : Nat) = n % 4
  rw [key, IntKind.wrap_i64]
  omega
def spaces : List (List UInt8) := [[], [32], [9], [32, 32]]
theorem spaces_ok (i : Nat) (h : i < 4) : blankB (spaces.getD i []) = true ∧ (spaces.getD i []).length ≤ 2 := by
  have : i = 0 ∨ i = 1 ∨ i = 2 ∨ i = 3 := by omega
  rcases this with rfl | rfl | rfl | rfl <;> decide
theorem spaces_cell (j : Nat) (h : j < 4) : (spaces.map S).toArray[j]? = some (S (spaces.getD j [])) := by
  have : j = 0 ∨ j = 1 ∨ j = 2 ∨ j = 3 := by omega
  rcases this with rfl | rfl | rfl | rfl <;> rfl
def okX (x y : List UInt8) : Bool := decide (0 < x.length) && (decide (x.length ≤ 50) && (decide (y.length ≤ 100) && (trimF y == y)))
theorem okX_laid {x y : List UInt8} (h : okX x y = true) (h1 : smallB x = true) (h2 : textB y = true) : laidOk x y := by
  simp only [okX, Bool.and_eq_true, decide_eq_true_eq, beq_iff_eq] at h
  exact ⟨h.1, h.2.1, h.2.2.1, h.2.2.2, h1, h2⟩
def smC (c : UInt8) : Bool := decide (97 ≤ c.toNat) && decide (c.toNat ≤ 122)
theorem backLaw_any (st : Int) (nv vv : Value) (ns vs : List (List UInt8)) (bl : Int) (w : World) (hn : TextsAt w nv ns) (hv : TextsAt w vv vs) (hb1 : -9223372036854775808 ≤ bl) (hb2 : bl ≤ 9223372036854775807) (hM : ML w) :
    Calls Tryd.prog 13 #[.agg #[I st, nv, vv], I bl] w fun e w' => e = .returned (.bool true) ∧ Kept [] w w' := by
  have HT0 := Lib.hid (And.intro hn hv)
  obtain ⟨np, nc, rfl, hnl, hncell⟩ := hn
  obtain ⟨vp, vc, rfl, hvl, hvcell⟩ := hv
  have hnl' : (ns.length : Int) ≤ 9223372036854775807 := by omega
  have hvl' : (vs.length : Int) ≤ 9223372036854775807 := by omega
  have HM := Lib.hid hM
  have HNC := Lib.hid hncell
  have HVC := Lib.hid hvcell
  obtain ⟨q, hq⟩ : ∃ q : Nat, max 100 (min st 599) = (q : Int) := ⟨(max 100 (min st 599)).toNat, by omega⟩
  have hq1 : 100 ≤ q := by omega
  have hq2 : q ≤ 599 := by omega
  have HNu := Lib.hid (num_ref q)
  have HQ := Lib.hid (And.intro hq1 hq2)
  have hdl : ((Lib.decDigits q).length : Int) ≤ 19 := by have := dec_len20 q (by omega); omega
  have hfl : firstL q ++ [13, 10] = [72, 84, 84, 80, 47, 49, 46, 49, 32] ++ Lib.decDigits q ++ [32, 13, 10] := by unfold firstL; simp
  have HLF := Lib.hid (laid_first q hq1 hq2)
  rw [hfl] at HLF
  obtain ⟨dd, hdd⟩ : ∃ dd, Lib.decDigits q = dd := ⟨_, rfl⟩
  rw [hdd] at HNu hdl HLF
  clear hfl hdd hncell hvcell hM hnl hvl hq1 hq2
  have HKB : Hid (Kept [] w (w.alloc (.cells #[I st, .slice np ns.length nc, .slice vp vs.length vc] HdT)) ∧ Blk (w.alloc (.cells #[I st, .slice np ns.length nc, .slice vp vs.length vc] HdT)) w.heap.size #[I st, .slice np ns.length nc, .slice vp vs.length vc] HdT) := Lib.hid ⟨(Kept.refl _ _).alloc _, heap_new w _⟩
  go_enter Tryd.func13, Tryd.ntmps13
  go_wp2_with (fail)
  refine (HNu.out _ (by have := HQ.out; omega)).mono ?_
  rintro e w1 ⟨rfl, k1⟩
  have H1 : Hid (Kept [] w w1 ∧ Blk w1 w.heap.size #[I st, .slice np ns.length nc, .slice vp vs.length vc] HdT) := Lib.hid ⟨HKB.out.1.trans' k1, HKB.out.2.kept k1 (by simp)⟩
  obtain ⟨a0, a1, a2⟩ := cells3 H1.out.2
  have hl1 : w.heap.size < w1.heap.size := lt_of_block H1.out.2
  clear k1
  go_wp2_with (fail)
  have H2 : Hid (PA (w1.heap.size + 1 + 1) ((w1.alloc (.cells #[I q, nilV, nilV] HdT)).alloc (.cells (spaces.map S).toArray 9)) w1.heap.size #[I q, nilV, nilV] nilV [] nilV [] ∧
      ((w1.alloc (.cells #[I q, nilV, nilV] HdT)).alloc (.cells (spaces.map S).toArray 9)).heap[w1.heap.size + 1]? = some (.cells (spaces.map S).toArray 9 (0, 0)) ∧
      Blk ((w1.alloc (.cells #[I q, nilV, nilV] HdT)).alloc (.cells (spaces.map S).toArray 9)) w.heap.size #[I st, .slice np ns.length nc, .slice vp vs.length vc] HdT ∧ Kept [] w ((w1.alloc (.cells #[I q, nilV, nilV] HdT)).alloc (.cells (spaces.map S).toArray 9))) := Lib.hid (by
    refine ⟨⟨Blk.alloc (heap_new w1 _) _, OwnT.nil _ _, OwnT.nil _ _, (fun g hg => by cases hg), (by omega)⟩, ?_, Blk.alloc (Blk.alloc H1.out.2 _) _, (H1.out.1.alloc _).alloc _⟩
    have := heap_new (w1.alloc (.cells #[I q, nilV, nilV] HdT)) (.cells (spaces.map S).toArray 9)
    rw [World.size_alloc] at this
    exact this)
  have HS1 := Lib.hid H1.out.1.size
  clear a0 a1 a2 hl1
  go_loopw [5, 8, 9, 10, 11, 12, 13] (fun sv iv _ _ _ _ _ wr => ∃ (k : Nat) (S0 : List UInt8) (n' v' : List (List UInt8)) (x1 x2 : Value), iv = I k ∧ sv = S S0 ∧ k ≤ 32 ∧ n'.length ≤ k ∧ v'.length = n'.length ∧ LaidH S0 ⟨q, n', v'⟩ ∧
      PA (w1.heap.size + 1 + 1) wr w1.heap.size #[I q, x1, x2] x1 n' x2 v' ∧ wr.heap[w1.heap.size + 1]? = some (.cells (spaces.map S).toArray 9 (0, 0)) ∧ Blk wr w.heap.size #[I st, .slice np ns.length nc, .slice vp vs.length vc] HdT ∧ Kept [] w wr) (fun _ i _ _ _ _ _ _ => 32 - (intOf i).toNat)
  case atStart =>
    exact ⟨0, _, [], [], nilV, nilV, rfl, rfl, by omega, by simp, rfl, HLF.out, H2.out.1, H2.out.2.1, H2.out.2.2.1, H2.out.2.2.2⟩
  case round =>
    clear hq hdl
    obtain ⟨k, S0, n', v', x1, x2, rfl, rfl, hk, hnk, hvn, hlaid, hpa, hsp, hbk, hkw⟩ := hrel
    obtain ⟨p1, q1, rfl⟩ := hpa.o1.form
    obtain ⟨p2, q2, rfl⟩ := hpa.o2.form
    have HK := Lib.hid (And.intro hpa (And.intro hsp (And.intro hbk hkw)))
    have HL := Lib.hid (And.intro hlaid (And.intro hnk hvn))
    have hS0 : (S0.length : Int) ≤ 2046 := by have := hlaid.2.1; omega
    have hn'l : (n'.length : Int) ≤ 32 := by omega
    have hv'l : (v'.length : Int) ≤ 32 := by omega
    clear hpa hsp hbk hkw hlaid hnk hvn
    obtain ⟨a0, a1, a2⟩ := cells3 HK.out.2.2.1
    obtain ⟨go, hgo⟩ : ∃ b, decide (k < ns.length ∧ k < vs.length ∧ k < 32) = b := ⟨_, rfl⟩
    have HGO := Lib.hid hgo
    clear hgo
    go_upto_region 5 with (fail)
    go_cut [45] from 30 to 44 (fun v wx => v = .bool go ∧ wx = wr)
    case first =>
      by_cases r1 : (k : Int) < ns.length
      · by_cases r2 : (k : Int) < vs.length
        · by_cases r3 : (k : Int) < 32
          · have HX : Hid (go = true) := Lib.hid (by rw [← HGO.out]; exact decide_eq_true (by omega))
            go_wp2_with (fail)
            all_goals (go_meet; exact ⟨by rw [HX.out], rfl⟩)
          · have HX : Hid (go = false) := Lib.hid (by rw [← HGO.out]; exact decide_eq_false (by omega))
            have r3d := decide_eq_false r3
            go_wp2_with (fail)
            all_goals (go_meet; exact ⟨by rw [HX.out], rfl⟩)
        · have HX : Hid (go = false) := Lib.hid (by rw [← HGO.out]; exact decide_eq_false (by omega))
          have r2d : decide (k < vs.length) = false := decide_eq_false (by omega)
          go_wp2_with (fail)
          all_goals (go_meet; exact ⟨by rw [HX.out], rfl⟩)
      · have HX : Hid (go = false) := Lib.hid (by rw [← HGO.out]; exact decide_eq_false (by omega))
        have r1d : decide (k < ns.length) = false := decide_eq_false (by omega)
        go_wp2_with (fail)
        all_goals (go_meet; exact ⟨by rw [HX.out], rfl⟩)
    case rest =>
    obtain ⟨rfl, hwc0⟩ := hcut
    replace hwc0 := hwc0.symm
    subst hwc0
    cases go
    case true =>
      obtain ⟨r1, r2, r3⟩ := of_decide_eq_true HGO.out
      have r1' : (k : Int) < ns.length := by omega
      have r2' : (k : Int) < vs.length := by omega
      have r3' : (k : Int) < 32 := by omega
      obtain ⟨nb, no, rfl, hnc⟩ := HNC.out (by intro e; rw [e] at r1; simp at r1)
      obtain ⟨vb, vo, rfl, hvc⟩ := HVC.out (by intro e; rw [e] at r2; simp at r2)
      have c1 := cellOf_kept HK.out.2.2.2 (hnc k r1)
      have c2 := cellOf_kept HK.out.2.2.2 (hvc k r2)
      obtain ⟨x, hx⟩ : ∃ x, ns.getD k [] = x := ⟨_, rfl⟩
      obtain ⟨y, hy⟩ : ∃ y, vs.getD k [] = y := ⟨_, rfl⟩
      rw [hx] at c1
      rw [hy] at c2
      have HKK := Lib.hid (And.intro r1 (And.intro r2 r3))
      clear hnc hvc hx hy r1 r2 r3
      go_wp2_with (fail)
      go_quiet (fail)
      go_upto_region 8 with (fail)
      go_cut [11] from 58 to 76 (fun v wx => v = .bool (okX x y) ∧ Kept [] wr wx)
      case first =>
        by_cases z1 : 0 < x.length
        · have z1' : (x.length : Int) > 0 := by omega
          by_cases z2 : x.length ≤ 50
          · have z2' : (x.length : Int) ≤ 50 := by omega
            by_cases z3 : y.length ≤ 100
            · have z3' : (y.length : Int) ≤ 100 := by omega
              have HTr := Lib.hid (fun W => rtrim_any y W (by omega) _ rfl)
              have HX : Hid (okX x y = (trimF y == y)) := Lib.hid (by unfold okX; rw [decide_eq_true z1, decide_eq_true z2, decide_eq_true z3]; simp)
              obtain ⟨b, hb⟩ : ∃ b, (trimF y == y) = b := ⟨_, rfl⟩
              rw [hb] at HX
              go_wp2_with ((go_at_call 44; (with_reducible refine (HTr.out _).mono ?_); rintro r w5 ⟨rfl, rfl⟩))
              all_goals (go_meet; exact ⟨by rw [HX.out], by first | exact (Kept.refl _ _).drewN _ | exact (Kept.refl _ _).drew⟩)
            · have z3' : ¬ (y.length : Int) ≤ 100 := by omega
              have HX : Hid (okX x y = false) := Lib.hid (by unfold okX; rw [decide_eq_false z3]; simp)
              go_wp2_with (fail)
              all_goals (go_meet; exact ⟨by rw [HX.out], by first | exact (Kept.refl _ _).drewN _ | exact (Kept.refl _ _).drew⟩)
          · have z2' : ¬ (x.length : Int) ≤ 50 := by omega
            have HX : Hid (okX x y = false) := Lib.hid (by unfold okX; rw [decide_eq_false z2]; simp)
            go_wp2_with (fail)
            all_goals (go_meet; exact ⟨by rw [HX.out], by first | exact (Kept.refl _ _).drewN _ | exact (Kept.refl _ _).drew⟩)
        · have z1' : ¬ (x.length : Int) > 0 := by omega
          have HX : Hid (okX x y = false) := Lib.hid (by unfold okX; rw [decide_eq_false z1]; simp)
          go_wp2_with (fail)
          all_goals (go_meet; exact ⟨by rw [HX.out], by first | exact (Kept.refl _ _).drewN _ | exact (Kept.refl _ _).drew⟩)
      case rest =>
        obtain ⟨rfl, hwc⟩ := hcut
        have HC := Lib.hid (And.intro (HK.out.1.kept hwc) (And.intro (hwc.at HK.out.2.1 (by simp)) (And.intro (HK.out.2.2.1.kept hwc (by simp)) (HK.out.2.2.2.trans' hwc))))
        clear hwc a0 a1 a2 c1 c2
        have hok50 : okX x y = true → x.length ≤ 50 ∧ y.length ≤ 100 := fun h => by
          simp only [okX, Bool.and_eq_true, decide_eq_true_eq] at h; exact ⟨h.2.1, h.2.2.1⟩
        have HOX := Lib.hid hok50
        clear hok50
        obtain ⟨o0, ho0⟩ : ∃ o, okX x y = o := ⟨_, rfl⟩
        rw [ho0] at HOX ⊢
        have HO0 := Lib.hid ho0
        clear ho0
        go_wp2_with (fail)
        go_loop [11, 12] (fun ov jv => ∃ (j : Nat) (b : Bool), jv = I j ∧ ov = .bool b ∧ (b = true → o0 = true ∧ j ≤ x.length ∧ (x.take j).all smC = true) ∧ (b = false → (o0 && smallB x) = false)) (fun ov jv => match ov with | .bool true => 1 + (x.length - (intOf jv).toNat) | _ => 0)
        case atStart => exact ⟨0, o0, rfl, rfl, fun h => ⟨h, by omega, rfl⟩, fun h => by rw [h]; rfl⟩
        case round =>
          obtain ⟨j, b, rfl, rfl, ht, hf⟩ := hrel
          cases b with
          | true =>
            obtain ⟨g1, g2, g3⟩ := ht rfl
            have hx50 := (HOX.out g1).1
            have hy100 := (HOX.out g1).2
            subst g1
            have HG3 := Lib.hid g3
            clear ht hf g3
            by_cases hj : j < x.length
            · have hj' : (j : Int) < x.length := by omega
              have HT := Lib.hid (allTake smC x j hj)
              have HH := Lib.hid (all_hit (p := smC) x j hj)
              obtain ⟨c, hc⟩ : ∃ c, byteAt x j = c := ⟨_, rfl⟩
              rw [hc] at HT HH
              by_cases h1 : 97 ≤ c.toNat
              · have h1' : (c.toNat : Int) ≥ 97 := by omega
                by_cases h2 : c.toNat ≤ 122
                · have h2' : (c.toNat : Int) ≤ 122 := by omega
                  have HV : Hid (smC c = true) := Lib.hid (by unfold smC; simp [h1, h2])
                  go_wp2_with (fail)
                  go_round
                  case rel => exact ⟨j + 1, true, by go_num, rfl, (fun _ => ⟨by simp, by omega, by rw [HT.out, HG3.out, HV.out]; rfl⟩), (fun h => by cases h)⟩
                  case measure => simp [intOf]; omega
                · have h2' : decide ((c.toNat : Int) ≤ 122) = false := decide_eq_false (by omega)
                  have HV : Hid (smallB x = false) := Lib.hid (HH.out (by unfold smC; simp [h2]))
                  go_wp2_with (fail)
                  go_round
                  case rel => exact ⟨j + 1, false, by go_num, rfl, (fun h => by cases h), (fun _ => by rw [HV.out]; rfl)⟩
                  case measure => (simp [intOf]; try omega)
              · have h1' : ¬ (c.toNat : Int) ≥ 97 := by omega
                have HV : Hid (smallB x = false) := Lib.hid (HH.out (by unfold smC; simp [h1]))
                go_wp2_with (fail)
                go_round
                case rel => exact ⟨j + 1, false, by go_num, rfl, (fun h => by cases h), (fun _ => by rw [HV.out]; rfl)⟩
                case measure => (simp [intOf]; try omega)
            · have hj' : ¬ (j : Int) < x.length := by omega
              have HSX : Hid (smallB x = true) := Lib.hid (by have := HG3.out; rw [List.take_of_length_le (by omega)] at this; exact this)
              go_wp2_with (fail)
              go_loop [11, 13] (fun ov jv => ∃ (m : Nat) (b : Bool), jv = I m ∧ ov = .bool b ∧ (b = true → m ≤ y.length ∧ (y.take m).all textC = true) ∧ (b = false → textB y = false)) (fun ov jv => match ov with | .bool true => 1 + (y.length - (intOf jv).toNat) | _ => 0)
              case atStart => exact ⟨0, true, rfl, rfl, fun h => ⟨by omega, rfl⟩, fun h => by cases h⟩
              case round =>
                obtain ⟨m, b, rfl, rfl, ht, hf⟩ := hrel
                cases b with
                | true =>
                  obtain ⟨g2, g3⟩ := ht rfl
                  have HG4 := Lib.hid g3
                  clear ht hf g3
                  by_cases hm : m < y.length
                  · have hm' : (m : Int) < y.length := by omega
                    have HT := Lib.hid (allTake textC y m hm)
                    have HH := Lib.hid (all_hit (p := textC) y m hm)
                    obtain ⟨c, hc⟩ : ∃ c, byteAt y m = c := ⟨_, rfl⟩
                    rw [hc] at HT HH
                    have hcc : (textC c = true ∧ (c.toNat : Int) ≥ 32 ∧ ((c.toNat : Int) != 127) = true) ∨ (textC c = false ∧ (c.toNat : Int) ≥ 32 ∧ ((c.toNat : Int) != 127) = false ∧ ((c.toNat : Int) == 9) = false) ∨ (textC c = true ∧ ¬ (c.toNat : Int) ≥ 32 ∧ ((c.toNat : Int) == 9) = true) ∨ (textC c = false ∧ ¬ (c.toNat : Int) ≥ 32 ∧ ((c.toNat : Int) == 9) = false) := by
                      rcases textC_ways c with ⟨w0, w1, w2, w3⟩ | ⟨w0, w1, w2, w3⟩ | ⟨w0, w1, w2, w3⟩ | ⟨w0, w1, w2, w3⟩
                      · right; right; left; exact ⟨w0, by omega, by rw [bne_eq_false_iff_eq] at w1; rw [w1]; rfl⟩
                      · left; exact ⟨w0, by omega, by rw [bne, w3]; rfl⟩
                      · right; right; right; exact ⟨w0, by omega, by rw [bne_iff_ne] at w1; rw [beq_eq_false_iff_ne]; exact w1⟩
                      · right; left; exact ⟨w0, by omega, by rw [bne, w3]; rfl, by rw [bne_iff_ne] at w1; rw [beq_eq_false_iff_ne]; exact w1⟩
                    rcases hcc with ⟨hv, w2, w3⟩ | ⟨hv, w2, w3, w4⟩ | ⟨hv, w2, w4⟩ | ⟨hv, w2, w4⟩
                    · have HV := Lib.hid hv
                      clear hv
                      go_wp2_with (fail)
                      go_round
                      case rel => exact ⟨m + 1, true, by go_num, rfl, (fun _ => ⟨by omega, by rw [HT.out, HG4.out, HV.out]; rfl⟩), (fun h => by cases h)⟩
                      case measure => simp [intOf]; omega
                    · have HV := Lib.hid (HH.out hv)
                      clear hv
                      go_wp2_with (fail)
                      go_round
                      case rel => exact ⟨m + 1, false, by go_num, rfl, (fun h => by cases h), (fun _ => HV.out)⟩
                      case measure => (simp [intOf]; try omega)
                    · have HV := Lib.hid hv
                      clear hv
                      go_wp2_with (fail)
                      go_round
                      case rel => exact ⟨m + 1, true, by go_num, rfl, (fun _ => ⟨by omega, by rw [HT.out, HG4.out, HV.out]; rfl⟩), (fun h => by cases h)⟩
                      case measure => simp [intOf]; omega
                    · have HV := Lib.hid (HH.out hv)
                      clear hv
                      go_wp2_with (fail)
                      go_round
                      case rel => exact ⟨m + 1, false, by go_num, rfl, (fun h => by cases h), (fun _ => HV.out)⟩
                      case measure => (simp [intOf]; try omega)
                  · have hm' : ¬ (m : Int) < y.length := by omega
                    have HTY : Hid (textB y = true) := Lib.hid (by have := HG4.out; rw [List.take_of_length_le (by omega)] at this; exact this)
                    have hx50' : (x.length : Int) ≤ 50 := by omega
                    have hy100' : (y.length : Int) ≤ 100 := by omega
                    by_cases hlong : S0.length + x.length + y.length + 9 > 2046
                    · have hlong' : (S0.length : Int) + x.length + y.length + 9 > 2046 := by omega
                      go_wp2_with (fail)
                      all_goals
                        go_roundw
                        case rel => exact ⟨k + 1, S0, n', v', .slice p1 n'.length q1, .slice p2 v'.length q2, by go_num, rfl, by have := HKK.out.2.2; omega, by have := HL.out.2.1; omega, HL.out.2.2, HL.out.1, HC.out.1, HC.out.2.1, HC.out.2.2.1, HC.out.2.2.2⟩
                        case measure => (have := HKK.out.2.2; simp [intOf]; omega)
                    · have hlong' : ¬ (S0.length : Int) + x.length + y.length + 9 > 2046 := by omega
                      obtain ⟨bm, hbm⟩ : ∃ bm : Nat, bl % 65536 = (bm : Int) := ⟨(bl % 65536).toNat, by omega⟩
                      have hbm2 : bm ≤ 65535 := by omega
                      obtain ⟨j1, hj1⟩ : ∃ j : Nat, ((bm : Int) + k) % 4 = (j : Int) := ⟨(((bm : Int) + k) % 4).toNat, by omega⟩
                      obtain ⟨j2, hj2⟩ : ∃ j : Nat, (bm : Int) / 4 % 4 = (j : Int) := ⟨((bm : Int) / 4 % 4).toNat, by omega⟩
                      have hj1' : j1 < 4 := by omega
                      have hj2' : j2 < 4 := by omega
                      obtain ⟨sp1, hsp1⟩ : ∃ s, spaces.getD j1 [] = s := ⟨_, rfl⟩
                      obtain ⟨sp2, hsp2⟩ : ∃ s, spaces.getD j2 [] = s := ⟨_, rfl⟩
                      have HSO1 : Hid (blankB sp1 = true ∧ sp1.length ≤ 2) := Lib.hid (by rw [← hsp1]; exact spaces_ok j1 hj1')
                      have HSO2 : Hid (blankB sp2 = true ∧ sp2.length ≤ 2) := Lib.hid (by rw [← hsp2]; exact spaces_ok j2 hj2')
                      have hs1l : (sp1.length : Int) ≤ 2 := by have := HSO1.out.2; omega
                      have hs2l : (sp2.length : Int) ≤ 2 := by have := HSO2.out.2; omega
                      have hcs1 := cell_at HC.out.2.1 j1
                      have hcs2 := cell_at HC.out.2.1 j2
                      rw [spaces_cell j1 hj1', hsp1] at hcs1
                      rw [spaces_cell j2 hj2', hsp2] at hcs2
                      have hwr1 : IntKind.i64.wrap ((bm : Int) + k) = (bm : Int) + k := IntWalk.i64_in _ (by omega)
                      have htd : (bm : Int).tdiv 4 = (bm : Int) / 4 := Int.tdiv_eq_ediv_of_nonneg (by omega)
                      have g1' : (j1 : Int) < 4 := by omega
                      have g2' : (j2 : Int) < 4 := by omega
                      clear hsp1 hsp2
                      obtain ⟨i0, hi, hz0, hz1, hz2⟩ := info_parts str_info
                      go_wp2_with (fail)
                      go_quiet (fail)
                      obtain ⟨W, hW⟩ : ∃ W, wc.drewN nq = W := ⟨_, rfl⟩
                      have HW : Hid (PA (w1.heap.size + 1 + 1) W w1.heap.size #[I q, .slice p1 n'.length q1, .slice p2 v'.length q2] (.slice p1 n'.length q1) n' (.slice p2 v'.length q2) v' ∧
                          W.heap[w1.heap.size + 1]? = some (.cells (spaces.map S).toArray 9 (0, 0)) ∧ Blk W w.heap.size #[I st, .slice (some ⟨nb, no, none⟩) ns.length nc, .slice (some ⟨vb, vo, none⟩) vs.length vc] HdT ∧ Kept [] w W) := Lib.hid (by
                        rw [← hW]
                        have kd : Kept [] wc (wc.drewN nq) := (Kept.refl _ _).drewN nq
                        exact ⟨HC.out.1.kept kd, kd.at HC.out.2.1 (by simp), HC.out.2.2.1.kept kd (by simp), HC.out.2.2.2.trans' kd⟩)
                      rw [hW]
                      clear hcs1 hcs2 hwr1 htd hj1 hj2 hbm hW
                      have HW1 : Hid (PA (w1.heap.size + 1 + 1) (W.alloc (.cells #[S x] 9)) w1.heap.size #[I q, .slice p1 n'.length q1, .slice p2 v'.length q2] (.slice p1 n'.length q1) n' (.slice p2 v'.length q2) v' ∧
                          (W.alloc (.cells #[S x] 9)).heap[w1.heap.size + 1]? = some (.cells (spaces.map S).toArray 9 (0, 0)) ∧ Blk (W.alloc (.cells #[S x] 9)) w.heap.size #[I st, .slice (some ⟨nb, no, none⟩) ns.length nc, .slice (some ⟨vb, vo, none⟩) vs.length vc] HdT ∧ Kept [] w (W.alloc (.cells #[S x] 9))) := Lib.hid (by
                        have kd : Kept [] W (W.alloc (.cells #[S x] 9)) := (Kept.refl _ _).alloc _
                        exact ⟨HW.out.1.kept kd, kd.at HW.out.2.1 (by simp), HW.out.2.2.1.kept kd (by simp), HW.out.2.2.2.trans' kd⟩)
                      have HV2 : Hid (n'.length < 32 ∧ v'.length < 32) := Lib.hid ⟨by have := HL.out.2.1; have := HKK.out.2.2; omega, by have := HL.out.2.1; have := HL.out.2.2; have := HKK.out.2.2; omega⟩
                      have hsz2 : w1.heap.size + 1 < W.heap.size := (Array.getElem?_eq_some_iff.1 HW.out.2.1).1
                      obtain ⟨b0, b1, b2⟩ := HW.out.1.cells
                      obtain ⟨d0, d1, d2⟩ := HW1.out.1.cells
                      have zl := HW.out.1.hlt
                      go_wp2_with (first
                        | (at_builtin
                           refine wpList_append_lies _ rfl (.tmp 166) (.tmp 168) _ rfl (w1.heap.size + 1 + 1) 9 i0 (.string ⟨#[]⟩) 1 16 Tryd.underlying47 hi hz0 hz1 hz2 rfl (by decide) (.slice p2 v'.length q2) v'.length (v'.map S) rfl HB1.out.1.o2 ⟨wa.heap.size, 0, none⟩ 1 1 [S y] rfl rfl (World.news_of_block (by have := HNW.out; rw [World.size_setCell] at this; exact this)) (S_one [y]) (by decide) (by have := HV2.out.2; unfold maxLen; omega) (by have := HV2.out.2; omega) (by simp; omega) _ rfl ?_
                           intro g2 cap2 wb own2 gr2 hat2 hlt2
                           have HE := Lib.hid (And.intro (HB1.out.1.app2 own2 gr2 hat2) (And.intro ((gr2.block _ (lt_of_block HB1.out.2.1) (fun e => by have := (HB1.out.1.o2.lt _ e.symm).1; omega)).trans HB1.out.2.1) (And.intro (HB1.out.2.2.1.grown gr2 (fun e => by have := (HB1.out.1.o2.lt _ e).1; have := HS1.out; omega)) (HB1.out.2.2.2.grown gr2 (fun q e => by have := (HB1.out.1.o2.lt q e).1; have := HS1.out; omega)))))
                           obtain ⟨_, zb1, zb2⟩ := HE.out.1.cells
                           have zf2 := HE.out.1.free 2
                           have zlb := HE.out.1.hlt
                           clear own2 gr2 hat2 hlt2)
                        | (at_builtin
                           refine wpList_append_lies _ rfl (.tmp 160) (.tmp 162) _ rfl (w1.heap.size + 1 + 1) 9 i0 (.string ⟨#[]⟩) 1 16 Tryd.underlying47 hi hz0 hz1 hz2 rfl (by decide) (.slice p1 n'.length q1) n'.length (n'.map S) rfl HW1.out.1.o1 ⟨W.heap.size, 0, none⟩ 1 1 [S x] rfl rfl (World.news_of_block (heap_new W _)) (S_one [x]) (by decide) (by have := HV2.out.1; unfold maxLen; omega) (by have := HV2.out.1; omega) (by simp; omega) _ rfl ?_
                           intro g cap wa own1 gr1 hat hlt
                           have HA := Lib.hid (And.intro (HW1.out.1.app1 own1 gr1 hat) (And.intro ((gr1.block _ (lt_of_block HW1.out.2.1) (fun e => by have := (HW1.out.1.o1.lt _ e.symm).1; omega)).trans HW1.out.2.1) (And.intro (HW1.out.2.2.1.grown gr1 (fun e => by have := (HW1.out.1.o1.lt _ e).1; have := HS1.out; omega)) (HW1.out.2.2.2.grown gr1 (fun q e => by have := (HW1.out.1.o1.lt q e).1; have := HS1.out; omega)))))
                           obtain ⟨_, za1, za2⟩ := HA.out.1.cells
                           have zf1 := HA.out.1.free 1
                           have zla := HA.out.1.hlt
                           clear own1 gr1 hat hlt
                           have HNW := Lib.hid (heap_new (wa.setCell ⟨w1.heap.size, 1, none⟩ (.slice (some ⟨g, 0, none⟩) (n'.length + 1) cap)) (.cells #[S y] 9))
                           have HB0 := Lib.hid (And.intro (HA.out.1.set 1 (.slice (some ⟨g, 0, none⟩) (n'.length + 1) cap)) (And.intro (((Kept.set1 wa ⟨w1.heap.size, 1, none⟩ (.slice (some ⟨g, 0, none⟩) (n'.length + 1) cap)).at HA.out.2.1 (by simp))) (And.intro (HA.out.2.2.1.other w1.heap.size 1 (.slice (some ⟨g, 0, none⟩) (n'.length + 1) cap) (by have := lt_of_block H1.out.2; omega)) (HA.out.2.2.2.setCell (p := ⟨w1.heap.size, 1, none⟩) (.inr HS1.out) (.slice (some ⟨g, 0, none⟩) (n'.length + 1) cap)))))
                           have HB1 := Lib.hid (And.intro (HB0.out.1.kept ((Kept.refl [] _).alloc (.cells #[S y] 9))) (And.intro (((Kept.refl [] (wa.setCell ⟨w1.heap.size, 1, none⟩ (.slice (some ⟨g, 0, none⟩) (n'.length + 1) cap))).alloc (.cells #[S y] 9)).at HB0.out.2.1 (by simp)) (And.intro (HB0.out.2.2.1.kept ((Kept.refl [] _).alloc (.cells #[S y] 9)) (by simp)) (HB0.out.2.2.2.alloc (.cells #[S y] 9)))))))
                      have HLF2 : Hid (LaidH (S0 ++ (x ++ 58 :: (sp1 ++ (y ++ (sp2 ++ [13, 10]))))) ⟨q, n' ++ [x], v' ++ [y]⟩) := Lib.hid (by
                        have := HL.out.1.field x y sp1 sp2 (okX_laid HO0.out HSX.out HTY.out) HSO1.out.1 HSO2.out.1 HSO1.out.2 HSO2.out.2 HV2.out.1 (by omega)
                        simpa [fieldL] using this)
                      have HZ := Lib.hid (And.intro (HE.out.1.set 2 (.slice (some ⟨g2, 0, none⟩) (v'.length + 1) cap2)) (And.intro (((Kept.set1 wb ⟨w1.heap.size, 2, none⟩ (.slice (some ⟨g2, 0, none⟩) (v'.length + 1) cap2)).at HE.out.2.1 (by simp))) (And.intro (HE.out.2.2.1.other w1.heap.size 2 (.slice (some ⟨g2, 0, none⟩) (v'.length + 1) cap2) (by have := lt_of_block H1.out.2; omega)) (HE.out.2.2.2.setCell (p := ⟨w1.heap.size, 2, none⟩) (.inr HS1.out) (.slice (some ⟨g2, 0, none⟩) (v'.length + 1) cap2)))))
                      go_roundw
                      case rel => exact ⟨k + 1, _, n' ++ [x], v' ++ [y], .slice (some ⟨g, 0, none⟩) (n'.length + 1) cap, .slice (some ⟨g2, 0, none⟩) (v'.length + 1) cap2, by go_num, rfl, by have := HKK.out.2.2; omega, by have := HL.out.2.1; simp; omega, by have := HL.out.2.2; simp [this], HLF2.out, HZ.out.1, HZ.out.2.1, HZ.out.2.2.1, HZ.out.2.2.2⟩
                      case measure => (have := HKK.out.2.2; simp [intOf]; omega)
                | false =>
                  clear ht hf
                  go_wp2_with (fail)
                  all_goals
                    go_roundw
                    case rel => exact ⟨k + 1, S0, n', v', .slice p1 n'.length q1, .slice p2 v'.length q2, by go_num, rfl, by have := HKK.out.2.2; omega, by have := HL.out.2.1; omega, HL.out.2.2, HL.out.1, HC.out.1, HC.out.2.1, HC.out.2.2.1, HC.out.2.2.2⟩
                    case measure => (have := HKK.out.2.2; simp [intOf]; omega)
          | false =>
            clear ht hf
            go_wp2_with (fail)
            all_goals
              go_loop [11, 13] (fun ov jv => ov = .bool false ∧ jv = I 0) (fun _ _ => 0)
              case atStart => exact ⟨rfl, rfl⟩
              case round =>
                obtain ⟨rfl, rfl⟩ := hrel
                go_wp2_with (fail)
                all_goals
                  go_roundw
                  case rel => exact ⟨k + 1, S0, n', v', .slice p1 n'.length q1, .slice p2 v'.length q2, by go_num, rfl, by have := HKK.out.2.2; omega, by have := HL.out.2.1; omega, HL.out.2.2, HL.out.1, HC.out.1, HC.out.2.1, HC.out.2.2.1, HC.out.2.2.2⟩
                  case measure => (have := HKK.out.2.2; simp [intOf]; omega)
    case false =>
      have HSL : Hid ((S0 ++ [13, 10, 98, 101, 104, 105, 110, 100]).length < 4294967281) := Lib.hid (by simp; omega)
      have HPD : Hid (parseF (S0 ++ [13, 10, 98, 101, 104, 105, 110, 100]) = .done ⟨q, n', v'⟩ (S0.length + 2)) := Lib.hid (HL.out.1.done [98, 101, 104, 105, 110, 100])
      have HFW : Hid (n'.length ≤ 32 ∧ v'.length ≤ 32) := Lib.hid (by have := HL.out.2; omega)
      obtain ⟨mm, hmm⟩ : ∃ m : Nat, S0.length + 2 = m := ⟨_, rfl⟩
      rw [hmm] at HPD
      have hmi : ((mm : Int) == (S0.length : Int) + 2) = true := by rw [beq_iff_eq]; omega
      clear hmm
      · go_wp2_with (fail)
        refine (parse_any (S0 ++ [13, 10, 98, 101, 104, 105, 110, 100]) wr HSL.out (HM.out.kept HK.out.2.2.2) _ HPD.out).mono ?_
        rintro e w2 hp
        obtain ⟨p3, q3, p4, q4, rfl, o1, o2, k2⟩ := @parse_at [] _ _ _ _ _ hp
        clear hp
        obtain ⟨D, hD⟩ : ∃ D, w2.alloc (.cells #[I q, .slice p3 n'.length q3, .slice p4 v'.length q4] HdT) = D := ⟨_, rfl⟩
        have HD : Hid (HeadAt wr.heap.size D w2.heap.size ⟨q, n', v'⟩ p3 q3 p4 q4 ∧ HeadAt (w1.heap.size + 1 + 1) D w1.heap.size ⟨q, n', v'⟩ p1 q1 p2 q2 ∧ Kept [] w D) := Lib.hid (by
          have kD : Kept [] wr D := by rw [← hD]; exact k2.alloc _
          refine ⟨by rw [← hD]; exact HeadAt.new (h := ⟨q, n', v'⟩) o1 o2, ?_, HK.out.2.2.2.trans' kD⟩
          exact HeadAt.kept ⟨HK.out.1.blk, HK.out.1.o1, HK.out.1.o2⟩ kD)
        clear o1 o2 k2
        go_wp2_with (fail)
        clear hD
        refine (fixed_any D (HM.out.kept HD.out.2.2)).mono ?_
        rintro e w3 ⟨rfl, k3⟩
        have H3 : Hid (HeadAt wr.heap.size w3 w2.heap.size ⟨q, n', v'⟩ p3 q3 p4 q4 ∧ HeadAt (w1.heap.size + 1 + 1) w3 w1.heap.size ⟨q, n', v'⟩ p1 q1 p2 q2 ∧ Kept [] w w3) := Lib.hid ⟨HD.out.1.kept k3, HD.out.2.1.kept k3, HD.out.2.2.trans' k3⟩
        clear k3
        obtain ⟨y0, y1, y2⟩ := cells3 H3.out.1.blk
        obtain ⟨x0, x1, x2⟩ := cells3 H3.out.2.1.blk
        go_wp2_with (fail)
        refine (same_heads H3.out.1 H3.out.2.1 HFW.out).mono ?_
        rintro e w4 ⟨rfl, k4⟩
        have H4 := Lib.hid (H3.out.2.2.trans' k4)
        clear k4
        go_wp2_with (fail)
        go_ret
        exact ⟨rfl, H4.out⟩
end Go.Proofs.YtgdioalhlmnhhaaDoor
