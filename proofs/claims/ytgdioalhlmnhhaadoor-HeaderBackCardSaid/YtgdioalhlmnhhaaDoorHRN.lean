/- Walks and lemmas on the program of this seat, used by its statements; each theorem bears its own conditions. -/
import Derived.Test.YtgdioalhlmnhhaaDoorHRM
namespace Go.Proofs.YtgdioalhlmnhhaaDoor
open Go.RowKit
set_option linter.unusedVariables false
set_option linter.unusedSimpArgs false
/-! ### fixed() -/
namespace WX
def tG : List UInt8 := [110, 97, 109, 101, 32, 97, 10, 100, 101, 118, 105, 99, 101, 32, 100, 10, 115, 105, 122, 101, 32, 53, 10]
def tN : List UInt8 := [110, 97, 109, 101, 32, 97, 10, 115, 105, 122, 101, 32, 53, 10]
def tZ : List UInt8 := [110, 97, 109, 101, 32, 97, 10, 100, 101, 118, 105, 99, 101, 32, 100, 10, 115, 105, 122, 101, 32, 48, 53, 10]
def tT : List UInt8 := [110, 97, 109, 101, 32, 97, 10, 100, 101, 118, 105, 99, 101, 32, 100, 10, 100, 101, 118, 105, 99, 101, 32, 100, 10, 115, 105, 122, 101, 32, 53, 10]
def hG : Hr := ⟨[97], [[100]], 5⟩
theorem gP : printF hG = (tG, 0) := by kernel_rfl
theorem gG : parseF tG = (hG, 0) := parse_print gP
theorem gN : parseF tN = (zeroR, 212) := by kernel_rfl
theorem gZ : parseF tZ = (zeroR, 210) := by kernel_rfl
theorem gT : parseF tT = (zeroR, 211) := by kernel_rfl
end WX
theorem fix1 (w : World) (hT : TH w) : Calls Tryd.prog 33 #[S WX.tG] w fun e w' => ∃ p c, e = .returned (.tuple #[.agg #[S [97], .slice p 1 c, I 5], I 0]) ∧ OwnT w.heap.size w' (.slice p 1 c) [[100]] ∧ Kept [] w w' :=
  (hparse_any WX.tG w (by decide) hT _ WX.gG).mono fun e w' ⟨v, he, o, k⟩ => by
    obtain ⟨p, c, rfl⟩ := o.form
    exact ⟨p, c, he, o, k⟩
theorem fixE (t : List UInt8) (n : Int) (w : World) (hT : TH w) (hl : t.length ≤ 3000) (h : WX.parseF t = (WX.zeroR, n)) : Calls Tryd.prog 33 #[S t] w fun e w' => ∃ p c, e = .returned (.tuple #[.agg #[S [], .slice p 0 c, I 0], I n]) ∧ Kept [] w w' :=
  (hparse_any t w hl hT _ h).mono fun e w' ⟨v, he, o, k⟩ => by
    obtain ⟨p, c, rfl⟩ := o.form
    exact ⟨p, c, he, k⟩
theorem fixP (p : Option Addr) (c : Nat) (w : World) (hT : TH w) (h : TextsAt w (.slice p 1 c) [[100]]) : Calls Tryd.prog 28 #[.agg #[S [97], .slice p 1 c, I 5]] w fun e w' => e = .returned (.tuple #[S [110, 97, 109, 101, 32, 97, 10, 100, 101, 118, 105, 99, 101, 32, 100, 10, 115, 105, 122, 101, 32, 53, 10], I 0]) ∧ Kept [] w w' :=
  print_any WX.hG _ w h (by decide) (by decide) (by decide) (by decide) hT.tabs hT.pow _ WX.gP
set_option maxRecDepth 100000 in
set_option maxHeartbeats 4000000 in
theorem fixed_any (w : World) (hT : TH w) : Calls Tryd.prog 30 #[] w fun e w' => e = .returned (.bool true) ∧ Kept [] w w' := by
  have HT := Lib.hid hT
  have HP1 := Lib.hid (fix1 w hT)
  clear hT
  go_enter Tryd.func30, Tryd.ntmps30
  go_wp2_with (fail)
  refine HP1.out.mono ?_
  rintro e w1 ⟨p, c, rfl, o1, k1⟩
  have HO := Lib.hid (And.intro o1 k1)
  clear o1 k1
  go_wp2_with (fail)
  obtain ⟨A1, hA1⟩ : ∃ A, w1.alloc (.cells #[S [97], .slice p 1 c, I 5] HrT) = A := ⟨_, rfl⟩
  have H1 : Hid (A1.heap[w1.heap.size]? = some (.cells #[S [97], .slice p 1 c, I 5] HrT (0, 0)) ∧ Kept [] w1 A1 ∧ Kept [] w A1) := Lib.hid (by
    have k : Kept [] w1 A1 := by rw [← hA1]; exact (Kept.refl _ _).alloc _
    rw [← hA1]; exact ⟨heap_new w1 _, hA1 ▸ k, HO.out.2.trans' (hA1 ▸ k)⟩)
  rw [hA1]
  clear hA1
  have h1A : Kept [] w A1 := H1.out.2.2
  refine (fixE WX.tN 212 A1 (HT.out.kept h1A) (by decide) WX.gN).mono ?_
  rintro e w2 ⟨p2, c2, rfl, k2⟩
  have K2 := Lib.hid (h1A.trans' k2)
  have B2 := Lib.hid k2
  clear k2 h1A
  go_wp2_with (fail)
  obtain ⟨A2, hA2⟩ : ∃ A, w2.alloc (.cells #[S [], .slice p2 0 c2, I 0] HrT) = A := ⟨_, rfl⟩
  have N2 : Hid (Kept [] A1 A2) := Lib.hid (by rw [← hA2]; exact B2.out.alloc _)
  have h2A : Kept [] w A2 := by rw [← hA2]; exact K2.out.alloc _
  rw [hA2]
  clear hA2
  refine (fixE WX.tZ 210 A2 (HT.out.kept h2A) (by decide) WX.gZ).mono ?_
  rintro e w3 ⟨p3, c3, rfl, k3⟩
  have K3 := Lib.hid (h2A.trans' k3)
  have B3 := Lib.hid k3
  clear k3 h2A
  go_wp2_with (fail)
  obtain ⟨A3, hA3⟩ : ∃ A, w3.alloc (.cells #[S [], .slice p3 0 c3, I 0] HrT) = A := ⟨_, rfl⟩
  have N3 : Hid (Kept [] A2 A3) := Lib.hid (by rw [← hA3]; exact B3.out.alloc _)
  have h3A : Kept [] w A3 := by rw [← hA3]; exact K3.out.alloc _
  rw [hA3]
  clear hA3
  refine (fixE WX.tT 211 A3 (HT.out.kept h3A) (by decide) WX.gT).mono ?_
  rintro e w4 ⟨p4, c4, rfl, k4⟩
  have K4 := Lib.hid (h3A.trans' k4)
  have B4 := Lib.hid k4
  clear k4 h3A
  have HX3 := Lib.hid (N2.out.trans' N3.out)
  obtain ⟨x0, x1, x2⟩ := cells3r ((B4.out.alloc (.cells #[S [], .slice p4 0 c4, I 0] HrT)).at (HX3.out.at H1.out.1 (by simp)) (by simp))
  go_wp2_with (fail)
  obtain ⟨A4, hA4⟩ : ∃ A, w4.alloc (.cells #[S [], .slice p4 0 c4, I 0] HrT) = A := ⟨_, rfl⟩
  have N4 : Hid (Kept [] A3 A4) := Lib.hid (by rw [← hA4]; exact B4.out.alloc _)
  have h4A : Kept [] w A4 := by rw [← hA4]; exact K4.out.alloc _
  rw [hA4]
  clear hA4
  have HK4 := Lib.hid (And.intro h4A ((N2.out.trans' N3.out).trans' N4.out))
  clear h4A
  have H4 : Hid (A4.heap[w1.heap.size]? = some (.cells #[S [97], .slice p 1 c, I 5] HrT (0, 0)) ∧ TextsAt A4 (.slice p 1 c) [[100]]) := Lib.hid ⟨HK4.out.2.at H1.out.1 (by simp), ((HO.out.1.texts (by decide)).kept H1.out.2.1).kept HK4.out.2⟩
  have HPR := Lib.hid (fixP p c A4 (HT.out.kept HK4.out.1) H4.out.2)
  go_wp2_with (fail)
  refine HPR.out.mono ?_
  rintro e w5 ⟨rfl, k5⟩
  have HK5 := Lib.hid k5
  clear k5
  have H5 : Hid (w5.heap[w1.heap.size]? = some (.cells #[S [97], .slice p 1 c, I 5] HrT (0, 0)) ∧ TextsAt w5 (.slice p 1 c) [[100]]) := Lib.hid ⟨HK5.out.at H4.out.1 (by simp), H4.out.2.kept HK5.out⟩
  obtain ⟨y0, y1, y2⟩ := cells3r H5.out.1
  clear x0 x1 x2
  go_wp2_with (fail)
  have KA := (Kept.refl [] w5).alloc (.cells #[S [100]] 9)
  have HSM := Lib.hid (same1_any (.slice p 1 c) (.slice (some ⟨w5.heap.size, 0, none⟩) 1 1) [[100]] [[100]] (w5.alloc (.cells #[S [100]] 9)) (H5.out.2.kept KA) ⟨some ⟨w5.heap.size, 0, none⟩, 1, rfl, by decide, fun _ => ⟨w5.heap.size, 0, rfl, fun i hi => by
    have : i = 0 := by simp at hi; omega
    subst this
    exact cell_at (heap_new w5 _) 0⟩⟩ true rfl)
  have HKA := Lib.hid KA
  clear KA
  refine HSM.out.mono ?_
  rintro e w6 ⟨rfl, k6⟩
  have HK6 := Lib.hid (HKA.out.trans' k6)
  clear k6
  have H6 : Hid (w6.heap[w1.heap.size]? = some (.cells #[S [97], .slice p 1 c, I 5] HrT (0, 0)) ∧ TextsAt w6 (.slice p 1 c) [[100]]) := Lib.hid ⟨HK6.out.at H5.out.1 (by simp), H5.out.2.kept HK6.out⟩
  obtain ⟨z0, z1, z2⟩ := cells3r H6.out.1
  clear y0 y1 y2
  have HF1 := Lib.hid (fits_any [97] (.slice p 1 c) 5 [[100]] [100] w6 H6.out.2 true rfl)
  go_wp2_with (fail)
  refine HF1.out.mono ?_
  rintro e w7 ⟨rfl, k7⟩
  have HK7 := Lib.hid k7
  clear k7
  have H7 : Hid (w7.heap[w1.heap.size]? = some (.cells #[S [97], .slice p 1 c, I 5] HrT (0, 0)) ∧ TextsAt w7 (.slice p 1 c) [[100]]) := Lib.hid ⟨HK7.out.at H6.out.1 (by simp), H6.out.2.kept HK7.out⟩
  obtain ⟨y0, y1, y2⟩ := cells3r H7.out.1
  clear z0 z1 z2
  have HF2 := Lib.hid (fits_any [97] (.slice p 1 c) 5 [[100]] [97] w7 H7.out.2 false rfl)
  go_wp2_with (fail)
  refine HF2.out.mono ?_
  rintro e w8 ⟨rfl, k8⟩
  go_wp2_with (fail)
  go_ret
  exact ⟨rfl, (((HK4.out.1.trans' HK5.out).trans' HK6.out).trans' HK7.out).trans' k8⟩
end Go.Proofs.YtgdioalhlmnhhaaDoor
