/- Walks and lemmas on the program of this seat, used by its statements; each theorem bears its own conditions. -/
import Derived.Test.YtgdioalhlmnhhaaDoorHRO
import Derived.Test.YtgdioalhlmnhhaaDoorHRH
import Derived.Handy
import Derived.Deep.CutRange
namespace Go.Proofs.YtgdioalhlmnhhaaDoor
open Go.RowKit
set_option linter.unusedVariables false
set_option linter.unusedSimpArgs false
/-! ### HeaderParses -/
def Spo (B C : Nat) (w : World) (v : Value) (n : Nat) : Prop := ∀ i, i < n → ∃ g c u, v = .slice (some ⟨g, 0, none⟩) n c ∧ B ≤ g ∧ g < C ∧ w.cell? ⟨g, i, none⟩ = some (S u) ∧ w.frozen? ⟨g, i, none⟩ = false
theorem Spo.of {B C : Nat} {w : World} {v : Value} {l : List (List UInt8)} (h : OwnT B w v l) (hC : w.heap.size ≤ C) : Spo B C w v l.length := by
  intro i hi
  rcases h.2 with ⟨_, h0⟩ | ⟨g, cap, cur, rfl, hb, hg, hnc, hcm, hsz, htake⟩
  · omega
  · refine ⟨g, cap, l.getD i [], rfl, hb, Nat.lt_of_lt_of_le (lt_of_block hg) hC, ?_, free_at hg i⟩
    rw [cell_at hg]
    have h1 : (cur.toList.take (l.length * 1))[i]? = some (S (l.getD i [])) := by rw [htake]; simp [List.getD, hi]
    rw [List.getElem?_take_of_lt (by omega)] at h1
    rw [← Array.getElem?_toList]; exact h1
theorem Spo.set {B C n : Nat} {w : World} {v : Value} (h : Spo B C w v n) (p : Addr) (x : List UInt8) : Spo B C (w.setCell p (S x)) v n := by
  intro i hi
  obtain ⟨g, c, u, hv, hb, hc, hcell, hf⟩ := h i hi
  by_cases he : p = ⟨g, i, none⟩
  · subst he
    exact ⟨g, c, x, hv, hb, hc, World.cell?_setCell_same' _ _ _ (by rw [hcell]; rfl), by rw [World.frozen?_setCell]; exact hf⟩
  · exact ⟨g, c, u, hv, hb, hc, by rw [World.cell?_setCell_other w _ _ _ he]; exact hcell, by rw [World.frozen?_setCell]; exact hf⟩
theorem Spo.kept {B C n : Nat} {w w' : World} {v : Value} (h : Spo B C w v n) (k : Kept [] w w') (hC : C ≤ w.heap.size) : Spo B C w' v n := by
  intro i hi
  obtain ⟨g, c, u, hv, hb, hc, hcell, hf⟩ := h i hi
  exact ⟨g, c, u, hv, hb, hc, by rw [k.cell (p := ⟨g, i, none⟩) (by show g < _; omega) (by simp)]; exact hcell, by rw [k.cells0.2 g i (by omega)]; exact hf⟩
theorem parseF_sz (s : List UInt8) : -9223372036854775808 ≤ (WX.parseF s).1.sz ∧ (WX.parseF s).1.sz ≤ 9223372036854775807 := by
  unfold WX.parseF
  split
  · exact (foldP_len s.length (WX.linesG s) WX.zeroR (WX.linesG_each s) ⟨by simp [WX.zeroR], by simp [WX.zeroR], by simp [WX.zeroR], by simp [WX.zeroR]⟩).2.2
  · simp [WX.zeroR]
theorem parseF_few (s : List UInt8) : (WX.parseF s).1.ds.length ≤ 8 := by
  unfold WX.parseF
  split
  · rename_i hp
    exact (WX.okH_parts (by
      rcases hx : WX.okH (WX.readP s) with _ | _
      · exfalso
        have : (WX.printF (WX.readP s)).2 = 210 := by unfold WX.printF; rw [if_pos hx]
        rw [hp] at this; cases this
      · rfl)).2.2.2.1
  · simp [WX.zeroR]
set_option maxRecDepth 100000 in
set_option maxHeartbeats 4000000 in
theorem headerParses_any (s : List UInt8) (w : World) (hs : s.length ≤ 4611686018427387904) (hT : TH w) :
    Calls Tryd.prog 8 #[S s] w fun e w' => e = .returned (.bool true) ∧ Kept [] w w' := by
  have HT := Lib.hid hT
  by_cases hlen : s.length ≤ 3000
  · have hlen' : ¬ (s.length : Int) > 3000 := by omega
    have hlen2 : (s.length : Int) ≤ 3000 := by omega
    obtain ⟨r, hr⟩ : ∃ r, WX.parseF s = r := ⟨_, rfl⟩
    have HR := Lib.hid hr
    have HSZ := Lib.hid (parseF_sz s)
    have hfew := parseF_few s
    rw [hr] at HSZ hfew
    have HS := Lib.hid hlen
    obtain ⟨⟨nm, ds, sz⟩, c⟩ := r
    simp only at hfew
    have hfew' : (ds.length : Int) ≤ 8 := by omega
    have HFW : Hid (ds.length ≤ 8) := Lib.hid hfew
    clear hr hT hs hlen hfew
    go_enter Tryd.func8, Tryd.ntmps8
    go_wp2_with (fail)
    refine (rparse_any s w HS.out (⟨nm, ds, sz⟩, c) (by rw [WX.parse_same]; exact HR.out)).mono ?_
    rintro e w1 ⟨v1, rfl, o1, k1⟩
    simp only at o1 ⊢
    obtain ⟨p1, q1, rfl⟩ := o1.form
    obtain ⟨A, hA⟩ : ∃ A, w1.alloc (.cells #[S nm, .slice p1 ds.length q1, I sz] HrT) = A := ⟨_, rfl⟩
    have HA : Hid (A.heap[w1.heap.size]? = some (.cells #[S nm, .slice p1 ds.length q1, I sz] HrT (0, 0)) ∧ TextsAt A (.slice p1 ds.length q1) ds ∧ Kept [] w A) := Lib.hid (by
      rw [← hA]
      exact ⟨heap_new w1 _, (o1.texts (by omega)).kept ((Kept.refl _ _).alloc _), k1.alloc _⟩)
    clear o1 k1
    go_wp2_with (fail)
    clear hA
    go_loopw [5] (fun t wr => ∃ k : Nat, k ≤ 2 ∧ t = I k ∧ Kept [] A wr) (fun t _ => 2 - (intOf t).toNat)
    case atStart => exact ⟨0, by omega, rfl, Kept.refl _ _⟩
    case round =>
      obtain ⟨k, hk, rfl, hkw⟩ := hrel
      have HK := Lib.hid hkw
      clear hkw
      by_cases hk2 : k < 2
      · have hk2' : (k : Int) < 2 := by omega
        go_wp2_with (fail)
        refine (hparse_any s wr HS.out ((HT.out.kept HA.out.2.2).kept HK.out) (⟨nm, ds, sz⟩, c) HR.out).mono ?_
        rintro e w2 ⟨y1, rfl, o1, k2⟩
        simp only at o1 ⊢
        obtain ⟨p3, q3, rfl⟩ := o1.form
        have s1 := Spo.of o1 (Nat.le_refl _)
        obtain ⟨E, hE⟩ : ∃ E, w2.alloc (.cells #[S nm, .slice p3 ds.length q3, I sz] HrT) = E := ⟨_, rfl⟩
        have kE : Kept [] w2 E := by rw [← hE]; exact (Kept.refl _ _).alloc _
        have HE : Hid (E.heap[w2.heap.size]? = some (.cells #[S nm, .slice p3 ds.length q3, I sz] HrT (0, 0)) ∧ TextsAt E (.slice p3 ds.length q3) ds ∧ Kept [] wr E) := Lib.hid (by
          refine ⟨by rw [← hE]; exact heap_new w2 _, (o1.texts (by omega)).kept kE, k2.trans' kE⟩)
        have HSP := Lib.hid (And.intro (s1.kept kE (Nat.le_refl _)) k2.size)
        have kAE := HK.out.trans' HE.out.2.2
        obtain ⟨b0, b1, b2⟩ := cells3r (kAE.at HA.out.1 (by simp))
        obtain ⟨d0, d1, d2⟩ := cells3r HE.out.1
        have HKE := Lib.hid kAE
        clear kE kAE o1 k2 s1
        go_wp2_with (fail)
        refine (sameR_any ⟨nm, ds, sz⟩ ⟨nm, ds, sz⟩ _ _ E HE.out.2.1 (HA.out.2.1.kept HKE.out) HSZ.out.1 HSZ.out.2 HSZ.out.1 HSZ.out.2 true (sameR_refl _)).mono ?_
        rintro e w3 ⟨rfl, k3⟩
        have HW3 : Hid (w3.heap[w2.heap.size]? = some (.cells #[S nm, .slice p3 ds.length q3, I sz] HrT (0, 0)) ∧ Spo wr.heap.size w2.heap.size w3 (.slice p3 ds.length q3) ds.length ∧ Kept [] wr w3) := Lib.hid
          ⟨k3.at HE.out.1 (by simp), HSP.out.1.kept k3 (by have := lt_of_block HE.out.1; omega), HE.out.2.2.trans' k3⟩
        clear k3 b0 b1 b2 d0 d1 d2 hE
        go_wp2_with (fail)
        go_loopw [8] (fun i wq => ∃ j : Nat, j ≤ ds.length ∧ i = I j ∧ wq.heap[w2.heap.size]? = some (.cells #[S nm, .slice p3 ds.length q3, I sz] HrT (0, 0)) ∧ Spo wr.heap.size w2.heap.size wq (.slice p3 ds.length q3) ds.length ∧ Kept [] wr wq) (fun i _ => 32 - (intOf i).toNat)
        case atStart => exact ⟨0, by omega, rfl, HW3.out⟩
        case round =>
          obtain ⟨j, hj, rfl, hb, sp1, hkq⟩ := hrel
          have HQ := Lib.hid (And.intro hb (And.intro sp1 hkq))
          obtain ⟨c0, c1, c2⟩ := cells3r hb
          clear hb sp1 hkq
          by_cases hjn : j < ds.length
          · have hjn' : (j : Int) < ds.length := by omega
            obtain ⟨g1, e1, u1, hv1, hb1, hc1, hcell1, hf1⟩ := HQ.out.2.1 j hjn
            injection hv1 with hp1 _ _
            have HSet := Lib.hid (And.intro ((Below.heap_setCell _ ⟨g1, j, none⟩ (S [115, 112, 111, 105, 108, 116]) _ (by intro e; simp at e; omega)).trans HQ.out.1) (And.intro (HQ.out.2.1.set ⟨g1, j, none⟩ [115, 112, 111, 105, 108, 116]) (HQ.out.2.2.setCell (p := ⟨g1, j, none⟩) (.inr hb1) (S [115, 112, 111, 105, 108, 116]))))
            subst hp1
            clear hb1 hc1
            have hm32 : 32 - (j + 1) < 32 - j := by have := HFW.out; omega
            go_wp2_with (fail)
            go_roundw
            case rel => exact ⟨j + 1, by omega, by go_num, HSet.out⟩
            case measure => simp [intOf]; omega
          · have hjn' : ¬ (j : Int) < ds.length := by omega
            go_wp2_with (fail)
            go_roundw
            case rel => exact ⟨k + 1, by omega, by go_num, HK.out.trans' HQ.out.2.2⟩
            case measure => simp [intOf]; omega
      · have hk2' : ¬ (k : Int) < 2 := by omega
        go_wp2_with (fail)
        refine (fixed_any wr ((HT.out.kept HA.out.2.2).kept HK.out)).mono ?_
        rintro e w5 ⟨rfl, k5⟩
        have H5 := Lib.hid ((HA.out.2.2.trans' HK.out).trans' k5)
        clear k5
        go_wp2_with (fail)
        go_ret
        exact ⟨rfl, H5.out⟩
  · have hlen' : (s.length : Int) > 3000 := by omega
    have hs' : (s.length : Int) ≤ 4611686018427387904 := by omega
    clear hlen hT
    go_enter Tryd.func8, Tryd.ntmps8
    go_wp2_with (fail)
    refine (fixed_any w HT.out).mono ?_
    rintro e w1 ⟨rfl, k1⟩
    go_wp2_with (fail)
    go_ret
    exact ⟨rfl, k1⟩
end Go.Proofs.YtgdioalhlmnhhaaDoor
