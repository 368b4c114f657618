/- Walks and lemmas on the program of this seat, used by its statements; each theorem bears its own conditions. -/
import Derived.Test.YtgdioalhlmnhhaaDoorHRE
import Derived.Handy
import Derived.Deep.CutRange
namespace Go.Proofs.YtgdioalhlmnhhaaDoor
open Go.RowKit
set_option linter.unusedVariables false
set_option linter.unusedSimpArgs false
/-! ### Same -/
theorem ne_of_getD1 {a b : List (List UInt8)} (k : Nat) (h : a.getD k [] ≠ b.getD k []) : a ≠ b := by intro e; subst e; exact h rfl
set_option maxHeartbeats 1000000 in
theorem same1_any (va vb : Value) (xs ys : List (List UInt8)) (w : World) (ha : TextsAt w va xs) (hb : TextsAt w vb ys) (r : Bool) (hr : decide (xs = ys) = r) :
    Calls Tryd.prog 60 #[va, vb] w fun e w' => e = .returned (.bool r) ∧ Kept [] w w' := by
  obtain ⟨p, ca, rfl, hla, hca⟩ := ha
  obtain ⟨q, cb, rfl, hlb, hcb⟩ := hb
  have hx : (xs.length : Int) ≤ 9223372036854775807 := by omega
  have hy : (ys.length : Int) ≤ 9223372036854775807 := by omega
  have HR := Lib.hid hr
  have HC := Lib.hid (And.intro hca hcb)
  clear hr hca hcb
  by_cases hn : xs.length = ys.length
  · have en : ((xs.length : Int) != ys.length) = false := by simp [hn]
    have HN := Lib.hid hn
    clear hn
    go_enter Tryd.func60, Tryd.ntmps60
    go_wp2_with (fail)
    go_loopw [5] (fun i wr => ∃ k : Nat, k ≤ xs.length ∧ i = I k ∧ xs.take k = ys.take k ∧ Kept [] w wr) (fun i _ => xs.length - (intOf i).toNat)
    case atStart => exact ⟨0, by omega, rfl, by simp, Kept.refl _ _⟩
    case round =>
      obtain ⟨k, hk, rfl, ht, hkw⟩ := hrel
      have HT := Lib.hid (And.intro ht hkw)
      clear ht hkw
      by_cases hlt : k < xs.length
      · have hlt' : (k : Int) < xs.length := by omega
        have hlt2 : (k : Int) < ys.length := by rw [← HN.out]; exact hlt'
        obtain ⟨b1, o1, rfl, hc1⟩ := HC.out.1 (by intro e; rw [e] at hlt; simp at hlt)
        obtain ⟨b2, o2, rfl, hc2⟩ := HC.out.2 (by intro e; rw [e] at hlt2; simp at hlt2; omega)
        have x1 := cellOf_kept HT.out.2 (hc1 k hlt)
        have x2 := cellOf_kept HT.out.2 (hc2 k (by omega))
        have HT1 : Hid (xs.take (k + 1) = xs.take k ++ [xs.getD k []]) := Lib.hid (by rw [List.take_succ_eq_append_getElem hlt]; simp [List.getD, hlt])
        have HT2 : Hid (ys.take (k + 1) = ys.take k ++ [ys.getD k []]) := Lib.hid (by have h : k < ys.length := by omega
                                                                                      rw [List.take_succ_eq_append_getElem h]; simp [List.getD, h])
        have HNE := Lib.hid (ne_of_getD1 (a := xs) (b := ys) k)
        obtain ⟨x, hx1⟩ : ∃ x, xs.getD k [] = x := ⟨_, rfl⟩
        obtain ⟨y, hy1⟩ : ∃ y, ys.getD k [] = y := ⟨_, rfl⟩
        rw [hx1] at x1 HT1 HNE
        rw [hy1] at x2 HT2 HNE
        clear hx1 hy1 hc1 hc2
        by_cases hq : x = y
        · have hqb : (x == y) = true := by simpa using hq
          have HQ := Lib.hid hq
          clear hq
          go_wp2_with (fail)
          go_quiet (fail)
          go_wp2
          go_roundw
          case rel => exact ⟨k + 1, by omega, by go_num, by rw [HT1.out, HT2.out, HT.out.1, HQ.out], HT.out.2.drewN _⟩
          case measure => simp [intOf]; omega
        · have hqb : (x == y) = false := by simpa using hq
          have HX : Hid (r = false) := Lib.hid (by rw [← HR.out]; exact decide_eq_false (HNE.out hq))
          clear hq
          go_wp2_with (fail)
          go_quiet (fail)
          go_wp2
          go_ret
          exact ⟨by rw [HX.out]; rfl, HT.out.2.drewN _⟩
      · obtain rfl : k = xs.length := by omega
        have HX : Hid (r = true) := Lib.hid (by
          rw [← HR.out]; apply decide_eq_true
          have := HT.out.1
          rw [List.take_length, HN.out, List.take_length] at this; exact this)
        go_wp2_with (fail)
        go_ret
        exact ⟨by rw [HX.out]; rfl, HT.out.2⟩
  · have en : ((xs.length : Int) != ys.length) = true := by simp; omega
    have HX : Hid (r = false) := Lib.hid (by rw [← HR.out]; apply decide_eq_false; intro e; exact hn (by rw [e]))
    clear hn
    go_enter Tryd.func60, Tryd.ntmps60
    go_wp2_with (fail)
    go_ret
    exact ⟨by rw [HX.out]; rfl, Kept.refl _ _⟩
def sameR (a b : WX.Hr) : Bool := (a.nm == b.nm) && (decide (a.sz = b.sz) && decide (a.ds = b.ds))
theorem sameR_refl (a : WX.Hr) : sameR a a = true := by simp [sameR]
theorem sameR_any (a b : WX.Hr) (va vb : Value) (w : World) (ha : TextsAt w va a.ds) (hb : TextsAt w vb b.ds) (ha1 : -9223372036854775808 ≤ a.sz) (ha2 : a.sz ≤ 9223372036854775807) (hb1 : -9223372036854775808 ≤ b.sz) (hb2 : b.sz ≤ 9223372036854775807) (r : Bool) (hr : sameR a b = r) :
    Calls Tryd.prog 34 #[.agg #[S a.nm, va, I a.sz], .agg #[S b.nm, vb, I b.sz]] w fun e w' => e = .returned (.bool r) ∧ Kept [] w w' := by
  obtain ⟨na, da, za⟩ := a
  obtain ⟨nb, db, zb⟩ := b
  simp only at ha hb ha1 ha2 hb1 hb2 ⊢
  have HR := Lib.hid hr
  have K0 : Kept [] w ((w.alloc (.cells #[S na, va, I za] HrT)).alloc (.cells #[S nb, vb, I zb] HrT)) := ((Kept.refl _ _).alloc _).alloc _
  obtain ⟨d, hd⟩ : ∃ d, decide (da = db) = d := ⟨_, rfl⟩
  have HS := Lib.hid (same1_any va vb da db _ (ha.kept K0) (hb.kept K0) d hd)
  have h0 : ((w.alloc (.cells #[S na, va, I za] HrT)).alloc (.cells #[S nb, vb, I zb] HrT)).heap[w.heap.size]? = some (.cells #[S na, va, I za] HrT (0, 0)) := by
    rw [Below.heap_alloc _ _ _ (by simp)]; exact heap_new w _
  have h1 : ((w.alloc (.cells #[S na, va, I za] HrT)).alloc (.cells #[S nb, vb, I zb] HrT)).heap[w.heap.size + 1]? = some (.cells #[S nb, vb, I zb] HrT (0, 0)) := by
    have := heap_new (w.alloc (.cells #[S na, va, I za] HrT)) (.cells #[S nb, vb, I zb] HrT)
    simpa using this
  have HK := Lib.hid K0
  have HD := Lib.hid hd
  obtain ⟨a0, a1, a2⟩ := cells3r h0
  obtain ⟨b0, b1, b2⟩ := cells3r h1
  obtain ⟨p, ca, rfl, hla, -⟩ := ha
  obtain ⟨q, cb, rfl, hlb, -⟩ := hb
  clear hr K0 hd h0 h1
  cases hn : (na == nb) with
  | false =>
    have HX : Hid (r = false) := Lib.hid (by rw [← HR.out]; unfold sameR; simp only; rw [hn]; rfl)
    go_enter Tryd.func34, Tryd.ntmps34
    go_wp2_with (fail)
    go_ret
    exact ⟨by rw [HX.out]; rfl, HK.out⟩
  | true =>
    by_cases hz : za = zb
    · have hzb : (za == zb) = true := by rw [beq_iff_eq]; exact hz
      have HX : Hid (r = d) := Lib.hid (by rw [← HR.out]; unfold sameR; simp only; rw [hn, decide_eq_true hz, HD.out]; simp)
      clear hz
      go_enter Tryd.func34, Tryd.ntmps34
      go_wp2_with (fail)
      refine HS.out.mono ?_
      rintro e w1 ⟨rfl, k1⟩
      have K1 := Lib.hid (HK.out.trans' k1)
      clear k1
      go_wp2_with (fail)
      go_ret
      exact ⟨by rw [HX.out]; rfl, K1.out⟩
    · have hzb : (za == zb) = false := by rw [beq_eq_false_iff_ne]; exact hz
      have HX : Hid (r = false) := Lib.hid (by rw [← HR.out]; unfold sameR; simp only; rw [decide_eq_false hz]; simp)
      clear hz
      go_enter Tryd.func34, Tryd.ntmps34
      go_wp2_with (fail)
      go_ret
      exact ⟨by rw [HX.out]; rfl, HK.out⟩
end Go.Proofs.YtgdioalhlmnhhaaDoor
