/- Walks and lemmas on the program of this seat, used by its statements; each theorem bears its own conditions. -/
import Derived.Test.YtgdioalhlmnhhaaDoorHRN
import Derived.Test.YtgdioalhlmnhhaaDoorHRC
import Derived.Handy
import Derived.Deep.CutRange
namespace Go.Proofs.YtgdioalhlmnhhaaDoor
open Go.RowKit
set_option linter.unusedVariables false
set_option linter.unusedSimpArgs false
/-! ### HeaderPrints -/
theorem mem_take_snoc (l : List (List UInt8)) (k : Nat) (h : k < l.length) (d : List UInt8) : decide (d ∈ l.take (k + 1)) = (decide (d ∈ l.take k) || (l.getD k [] == d)) := by
  have e : l.getD k [] = l[k] := by simp [List.getD, h]
  rw [List.take_succ_eq_append_getElem h, e, Bool.eq_iff_iff]
  simp only [decide_eq_true_eq, List.mem_append, List.mem_singleton, Bool.or_eq_true, beq_iff_eq]
  exact ⟨fun h => h.imp id Eq.symm, fun h => h.imp id Eq.symm⟩
set_option maxRecDepth 100000 in
set_option maxHeartbeats 4000000 in
theorem headerPrints_any (nm : List UInt8) (ds : List (List UInt8)) (sz : Int) (v : Value) (d : List UInt8) (w : World) (hd : TextsAt w v ds) (hnl : nm.length ≤ 4611686018427387904) (hdl : ∀ d ∈ ds, d.length ≤ 4611686018427387904) (hz1 : -9223372036854775808 ≤ sz) (hz2 : sz ≤ 9223372036854775807) (hT : TH w) :
    Calls Tryd.prog 7 #[.agg #[S nm, v, I sz], S d] w fun e w' => e = .returned (.bool true) ∧ Kept [] w w' := by
  have HT := Lib.hid hT
  have K0 : Kept [] w (w.alloc (.cells #[S nm, v, I sz] HrT)) := (Kept.refl _ _).alloc _
  obtain ⟨r, hr⟩ : ∃ r, WX.printF ⟨nm, ds, sz⟩ = r := ⟨_, rfl⟩
  obtain ⟨t, en⟩ := r
  have hd0 := hd
  obtain ⟨p, c, rfl, hl, hcell⟩ := hd
  have hl' : (ds.length : Int) ≤ 9223372036854775807 := by omega
  obtain ⟨A, hA⟩ : ∃ A, w.alloc (.cells #[S nm, .slice p ds.length c, I sz] HrT) = A := ⟨_, rfl⟩
  have HA : Hid (Kept [] w A ∧ A.heap[w.heap.size]? = some (.cells #[S nm, .slice p ds.length c, I sz] HrT (0, 0)) ∧ TextsAt A (.slice p ds.length c) ds) := Lib.hid (by rw [← hA]; exact ⟨K0, heap_new w _, hd0.kept K0⟩)
  have HP := Lib.hid (fun W (k : Kept [] A W) => print_any ⟨nm, ds, sz⟩ (.slice p ds.length c) W (HA.out.2.2.kept k) hnl hdl hz1 hz2 (HT.out.kept (HA.out.1.trans' k)).tabs (HT.out.kept (HA.out.1.trans' k)).pow (t, en) hr)
  have HR := Lib.hid (fun W (k : Kept [] A W) => rprint_any ⟨nm, ds, sz⟩ (.slice p ds.length c) W (HA.out.2.2.kept k) hnl hdl hz1 hz2 (t, en) hr)
  have HC := Lib.hid hcell
  have HAA := Lib.hid hA
  clear hd0 hcell hr hnl hdl hz1 hz2 hT K0 hA
  obtain ⟨x0, x1, x2⟩ := cells3r HA.out.2.1
  go_enter Tryd.func7, Tryd.ntmps7
  go_wp2_with (fail)
  rw [HAA.out]
  refine (HP.out A (Kept.refl _ _)).mono ?_
  rintro e w1 ⟨rfl, k1⟩
  have H1 : Hid (Kept [] A w1 ∧ w1.heap[w.heap.size]? = some (.cells #[S nm, .slice p ds.length c, I sz] HrT (0, 0))) := Lib.hid ⟨k1, k1.at HA.out.2.1 (by simp)⟩
  obtain ⟨y0, y1, y2⟩ := cells3r H1.out.2
  clear k1 x0 x1 x2
  go_wp2_with (fail)
  refine (HR.out w1 H1.out.1).mono ?_
  rintro e w2 ⟨rfl, k2⟩
  have H2 : Hid (Kept [] A w2 ∧ w2.heap[w.heap.size]? = some (.cells #[S nm, .slice p ds.length c, I sz] HrT (0, 0))) := Lib.hid ⟨H1.out.1.trans' k2, k2.at H1.out.2 (by simp)⟩
  obtain ⟨x0, x1, x2⟩ := cells3r H2.out.2
  have hC2 : ds ≠ [] → ∃ b off, p = some ⟨b, off, none⟩ ∧ ∀ i, i < ds.length → w2.cell? ⟨b, off + i, none⟩ = some (S (ds.getD i [])) := fun hne => by
    obtain ⟨b, off, hp, h⟩ := HC.out hne
    exact ⟨b, off, hp, fun i hi => cellOf_kept (HA.out.1.trans' H2.out.1) (h i hi)⟩
  have HC2 := Lib.hid hC2
  clear k2 y0 y1 y2 hC2
  go_wp2_with (fail)
  go_loop [9, 10] (fun bv iv => ∃ k : Nat, iv = I k ∧ bv = .bool (decide (d ∈ ds.take k)) ∧ k ≤ ds.length) (fun _ iv => ds.length - (intOf iv).toNat)
  case atStart => exact ⟨0, rfl, by simp, by omega⟩
  case round =>
    obtain ⟨k, rfl, rfl, hk⟩ := hrel
    by_cases hlt : k < ds.length
    · have hlt' : (k : Int) < ds.length := by omega
      have HM := Lib.hid (mem_take_snoc ds k hlt d)
      obtain ⟨bb, of, rfl, hc⟩ := HC2.out (by intro e; rw [e] at hlt; simp at hlt)
      have c1 := hc k hlt
      obtain ⟨x, hx⟩ : ∃ x, ds.getD k [] = x := ⟨_, rfl⟩
      rw [hx] at c1 HM
      obtain ⟨o, ho⟩ : ∃ o, decide (d ∈ ds.take k) = o := ⟨_, rfl⟩
      rw [ho] at HM ⊢
      obtain ⟨q, hq⟩ : ∃ q, (x == d) = q := ⟨_, rfl⟩
      rw [hq] at HM
      clear hc hx ho
      cases o with
      | true =>
        go_wp2_with (fail)
        go_round
        case rel => exact ⟨k + 1, by go_num, by rw [HM.out]; rfl, by omega⟩
        case measure => simp [intOf]; omega
      | false =>
        go_wp2_with (fail)
        go_round
        case rel => exact ⟨k + 1, by go_num, by rw [HM.out]; simp [hq], by omega⟩
        case measure => simp [intOf]; omega
    · have hex : ¬ (k : Int) < ds.length := by omega
      obtain rfl : k = ds.length := by omega
      rw [List.take_length]
      obtain ⟨o, ho⟩ : ∃ o, decide (d ∈ ds) = o := ⟨_, rfl⟩
      have HO := Lib.hid ho
      have HFX := Lib.hid (fixed_any w2 (HT.out.kept (HA.out.1.trans' H2.out.1)))
      rw [ho]
      clear ho
      go_wp2_with (fail)
      refine HFX.out.mono ?_
      rintro e w3 ⟨rfl, k3⟩
      have H3 : Hid (Kept [] A w3 ∧ w3.heap[w.heap.size]? = some (.cells #[S nm, .slice p ds.length c, I sz] HrT (0, 0))) := Lib.hid ⟨H2.out.1.trans' k3, k3.at H2.out.2 (by simp)⟩
      obtain ⟨y0, y1, y2⟩ := cells3r H3.out.2
      have HFT := Lib.hid (fits_any nm (.slice p ds.length c) sz ds d w3 (HA.out.2.2.kept H3.out.1) o HO.out)
      clear k3 x0 x1 x2
      go_wp2_with (fail)
      refine HFT.out.mono ?_
      rintro e w4 ⟨rfl, k4⟩
      have H4 := Lib.hid ((HA.out.1.trans' H3.out.1).trans' k4)
      clear k4
      go_wp2_with (fail)
      go_ret
      exact ⟨by simp, H4.out⟩
end Go.Proofs.YtgdioalhlmnhhaaDoor
