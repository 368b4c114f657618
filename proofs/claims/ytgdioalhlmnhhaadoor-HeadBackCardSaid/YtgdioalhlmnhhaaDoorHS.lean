/- Walks and lemmas on the program of this seat, used by its statements; each theorem bears its own conditions. -/
import Derived.Test.YtgdioalhlmnhhaaDoorHR
import Derived.Handy
namespace Go.Proofs.YtgdioalhlmnhhaaDoor
open Go.RowKit
set_option linter.unusedVariables false
set_option linter.unusedSimpArgs false
set_option maxHeartbeats 8000000
set_option maxRecDepth 100000
/-! ### HeadParses -/
theorem head_few (s : List UInt8) : (parseF s).head.ns.length ≤ 32 ∧ (parseF s).head.vs.length = (parseF s).head.ns.length := by
  cases h : parseF s with
  | fail e => simp [HR.head, zeroH]
  | on a b => simp [HR.head, zeroH]
  | done a b => have := (parse_ok h).1; exact ⟨this.few, this.same.symm⟩
theorem sameH_refl (h : Hd) : sameH h h = true := by simp [sameH]
def Spo (B C : Nat) (w : World) (v : Value) (n : Nat) : Prop := ∀ i, i < n → ∃ g c u, v = .slice (some ⟨g, 0, none⟩) n c ∧ B ≤ g ∧ g < C ∧ w.cell? ⟨g, i, none⟩ = some (S u) ∧ w.frozen? ⟨g, i, none⟩ = false
theorem Spo.of {B C : Nat} {w : World} {v : Value} {l : List (List UInt8)} (h : OwnT B w v l) (hC : w.heap.size ≤ C) : Spo B C w v l.length := by
  intro i hi
  rcases h.2 with ⟨_, h0⟩ | ⟨g, cap, cur, rfl, hb, hg, hnc, hcm, hsz, htake⟩
  · omega
  · refine ⟨g, cap, l.getD i [], rfl, hb, Nat.lt_of_lt_of_le (lt_of_block hg) hC, ?_, free_at hg i⟩
    rw [cell_at hg]
    have h1 : (cur.toList.take (l.length * 1))[i]? = some (S (l.getD i [])) := by rw [htake]; simp [List.getD, hi]
    rw [List.getElem?_take_of_lt (by omega)] at h1
    rw [← Array.getElem?_toList]; exact h1
theorem Spo.set {B C n : Nat} {w : World} {v : Value} (h : Spo B C w v n) (p : Addr) (x : List UInt8) : Spo B C (w.setCell p (S x)) v n := by
  intro i hi
  obtain ⟨g, c, u, hv, hb, hc, hcell, hf⟩ := h i hi
  by_cases he : p = ⟨g, i, none⟩
  · subst he
    exact ⟨g, c, x, hv, hb, hc, World.cell?_setCell_same' _ _ _ (by rw [hcell]; rfl), by rw [World.frozen?_setCell]; exact hf⟩
  · exact ⟨g, c, u, hv, hb, hc, by rw [World.cell?_setCell_other w _ _ _ he]; exact hcell, by rw [World.frozen?_setCell]; exact hf⟩
theorem Spo.kept {B C n : Nat} {w w' : World} {v : Value} (h : Spo B C w v n) (k : Kept [] w w') (hC : C ≤ w.heap.size) : Spo B C w' v n := by
  intro i hi
  obtain ⟨g, c, u, hv, hb, hc, hcell, hf⟩ := h i hi
  exact ⟨g, c, u, hv, hb, hc, by rw [k.cell (p := ⟨g, i, none⟩) (by show g < _; omega) (by simp)]; exact hcell, by rw [k.cells0.2 g i (by omega)]; exact hf⟩
theorem parsesLaw_any (s : List UInt8) (w : World) (hs : s.length < 4294967281) (hT : ML w) :
    Calls Tryd.prog 11 #[S s] w fun e w' => e = .returned (.bool true) ∧ Kept [] w w' := by
  have HML := Lib.hid hT
  obtain ⟨r, hr⟩ : ∃ r, parseF s = r := ⟨_, rfl⟩
  have HR := Lib.hid hr
  have hfew := head_few s
  rw [hr] at hfew
  obtain ⟨h, hh⟩ : ∃ h, r.head = h := ⟨_, rfl⟩
  obtain ⟨m, hm⟩ : ∃ m, r.many = m := ⟨_, rfl⟩
  obtain ⟨c, hc⟩ : ∃ c, r.err = c := ⟨_, rfl⟩
  rw [hh] at hfew
  obtain ⟨hf1, hf2⟩ := hfew
  have HH := Lib.hid (And.intro hh (And.intro hm hc))
  have hf1' : (h.ns.length : Int) ≤ 32 := by omega
  have hf2' : (h.vs.length : Int) ≤ 32 := by omega
  have HF := Lib.hid (And.intro hf1 hf2)
  have HS := Lib.hid hs
  clear hr hh hm hc hT hs hf1 hf2
  go_enter Tryd.func11, Tryd.ntmps11
  go_wp2_with (fail)
  refine (rparse_any s w (by have := HS.out; omega) r HR.out).mono ?_
  rintro e w1 ⟨v1, v2, rfl, o1, o2, k1⟩
  rw [HH.out.1] at o1 o2 ⊢
  rw [HH.out.2.1, HH.out.2.2]
  obtain ⟨p1, q1, rfl⟩ := o1.form
  obtain ⟨p2, q2, rfl⟩ := o2.form
  obtain ⟨A, hA⟩ : ∃ A, w1.alloc (.cells #[I h.st, .slice p1 h.ns.length q1, .slice p2 h.vs.length q2] HdT) = A := ⟨_, rfl⟩
  have HA : Hid (Blk A w1.heap.size #[I h.st, .slice p1 h.ns.length q1, .slice p2 h.vs.length q2] HdT ∧ OwnT w.heap.size A (.slice p1 h.ns.length q1) h.ns ∧ OwnT w.heap.size A (.slice p2 h.vs.length q2) h.vs ∧ Kept [] w A) := Lib.hid (by
    rw [← hA]
    exact ⟨heap_new w1 _, o1.kept ((Kept.refl _ _).alloc _), o2.kept ((Kept.refl _ _).alloc _), k1.alloc _⟩)
  clear o1 o2 k1
  go_wp2_with (fail)
  clear hA
  go_loopw [6, 7, 8, 9, 10] (fun t _ _ _ _ wr => ∃ k : Nat, k ≤ 2 ∧ t = I k ∧ Kept [] A wr) (fun t _ _ _ _ _ => 2 - (intOf t).toNat)
  case atStart => exact ⟨0, by omega, rfl, Kept.refl _ _⟩
  case round =>
    obtain ⟨k, hk, rfl, hkw⟩ := hrel
    have HK := Lib.hid hkw
    clear hkw
    by_cases hk2 : k < 2
    · have hk2' : (k : Int) < 2 := by omega
      go_wp2_with (fail)
      refine (parse_any s wr HS.out ((HML.out.kept HA.out.2.2.2).kept HK.out) r HR.out).mono ?_
      rintro e w2 ⟨y1, y2, rfl, o1, o2, k2⟩
      rw [HH.out.1] at o1 o2 ⊢
      rw [HH.out.2.1, HH.out.2.2]
      obtain ⟨p3, q3, rfl⟩ := o1.form
      obtain ⟨p4, q4, rfl⟩ := o2.form
      have s1 := Spo.of o1 (Nat.le_refl _)
      have s2 := Spo.of o2 (Nat.le_refl _)
      obtain ⟨E, hE⟩ : ∃ E, w2.alloc (.cells #[I h.st, .slice p3 h.ns.length q3, .slice p4 h.vs.length q4] HdT) = E := ⟨_, rfl⟩
      have kE : Kept [] w2 E := by rw [← hE]; exact (Kept.refl _ _).alloc _
      have HE : Hid (Blk E w2.heap.size #[I h.st, .slice p3 h.ns.length q3, .slice p4 h.vs.length q4] HdT ∧ OwnT wr.heap.size E (.slice p3 h.ns.length q3) h.ns ∧ OwnT wr.heap.size E (.slice p4 h.vs.length q4) h.vs ∧ Kept [] wr E) := Lib.hid (by
        refine ⟨by rw [← hE]; exact heap_new w2 _, o1.kept kE, o2.kept kE, k2.trans' kE⟩)
      have HSP := Lib.hid (And.intro (s1.kept kE (Nat.le_refl _)) (And.intro (s2.kept kE (Nat.le_refl _)) k2.size))
      clear o1 o2 k2 s1 s2
      have kAE := HK.out.trans' HE.out.2.2.2
      obtain ⟨b0, b1, b2⟩ := cells3 (HA.out.1.kept kAE (by simp))
      obtain ⟨d0, d1, d2⟩ := cells3 HE.out.1
      have HKE := Lib.hid kAE
      clear kE kAE
      go_wp2_with (fail)
      refine (rsame_any h h _ _ _ _ E (HE.out.2.1.texts (by have h5 := HF.out.1; have h6 := HF.out.2; omega)) (HE.out.2.2.1.texts (by have h5 := HF.out.1; have h6 := HF.out.2; omega)) ((HA.out.2.1.kept HKE.out).texts (by have h5 := HF.out.1; have h6 := HF.out.2; omega)) ((HA.out.2.2.1.kept HKE.out).texts (by have h5 := HF.out.1; have h6 := HF.out.2; omega)) true (sameH_refl h)).mono ?_
      rintro e w3 ⟨rfl, k3⟩
      have HW3 : Hid (Blk w3 w2.heap.size #[I h.st, .slice p3 h.ns.length q3, .slice p4 h.vs.length q4] HdT ∧ Spo wr.heap.size w2.heap.size w3 (.slice p3 h.ns.length q3) h.ns.length ∧ Spo wr.heap.size w2.heap.size w3 (.slice p4 h.vs.length q4) h.vs.length ∧ Kept [] wr w3) := Lib.hid
        ⟨HE.out.1.kept k3 (by simp), HSP.out.1.kept k3 (by have := lt_of_block HE.out.1; omega), HSP.out.2.1.kept k3 (by have := lt_of_block HE.out.1; omega), HE.out.2.2.2.trans' k3⟩
      clear k3 b0 b1 b2 d0 d1 d2 hE
      go_wp2_with (fail)
      go_loopw [10] (fun i wq => ∃ j : Nat, j ≤ h.ns.length ∧ i = I j ∧ Blk wq w2.heap.size #[I h.st, .slice p3 h.ns.length q3, .slice p4 h.vs.length q4] HdT ∧ Spo wr.heap.size w2.heap.size wq (.slice p3 h.ns.length q3) h.ns.length ∧ Spo wr.heap.size w2.heap.size wq (.slice p4 h.vs.length q4) h.vs.length ∧ Kept [] wr wq) (fun i _ => 32 - (intOf i).toNat)
      case atStart => exact ⟨0, by omega, rfl, HW3.out⟩
      case round =>
        obtain ⟨j, hj, rfl, hb, sp1, sp2, hkq⟩ := hrel
        have HQ := Lib.hid (And.intro hb (And.intro sp1 (And.intro sp2 hkq)))
        obtain ⟨c0, c1, c2⟩ := cells3 hb
        clear hb sp1 sp2 hkq
        by_cases hjn : j < h.ns.length
        · have hjn' : (j : Int) < h.ns.length := by omega
          have hjv' : (j : Int) < h.vs.length := by have := HF.out.2; omega
          obtain ⟨g1, e1, u1, hv1, hb1, hc1, hcell1, hf1⟩ := HQ.out.2.1 j hjn
          injection hv1 with hp1 _ _
          have hf0 := HF.out.2
          have HSet := Lib.hid (And.intro (HQ.out.1.other g1 j (S [115, 112, 111, 105, 108, 116]) (by omega)) (And.intro (HQ.out.2.1.set ⟨g1, j, none⟩ [115, 112, 111, 105, 108, 116]) (And.intro (HQ.out.2.2.1.set ⟨g1, j, none⟩ [115, 112, 111, 105, 108, 116]) (HQ.out.2.2.2.setCell (p := ⟨g1, j, none⟩) (.inr hb1) (S [115, 112, 111, 105, 108, 116])))))
          obtain ⟨z0, z1, z2⟩ := cells3 HSet.out.1
          obtain ⟨g2, e2, u2, hv2, hb2, hc2, hcell2, hf2⟩ := HSet.out.2.2.1 j (by omega)
          injection hv2 with hp2 _ _
          have HSet2 := Lib.hid (And.intro (HSet.out.1.other g2 j (S [115, 112, 111, 105, 108, 116]) (by omega)) (And.intro (HSet.out.2.1.set ⟨g2, j, none⟩ [115, 112, 111, 105, 108, 116]) (And.intro (HSet.out.2.2.1.set ⟨g2, j, none⟩ [115, 112, 111, 105, 108, 116]) (HSet.out.2.2.2.setCell (p := ⟨g2, j, none⟩) (.inr hb2) (S [115, 112, 111, 105, 108, 116])))))
          have HB1 := Lib.hid (And.intro hb1 (And.intro hc1 (And.intro hb2 hc2)))
          subst hp1 hp2
          clear hb1 hc1 hb2 hc2 hf0
          go_wp2_with (fail)
          go_roundw
          case rel => exact ⟨j + 1, by omega, by go_num, HSet2.out⟩
          case measure => simp [intOf]; omega
        · have hjn' : ¬ (j : Int) < h.ns.length := by omega
          go_wp2_with (fail)
          go_roundw
          case rel => exact ⟨k + 1, by omega, by go_num, HK.out.trans' HQ.out.2.2.2⟩
          case measure => simp [intOf]; omega
    · have hk2' : ¬ (k : Int) < 2 := by omega
      go_wp2_with (fail)
      refine (fixed_any wr ((HML.out.kept HA.out.2.2.2).kept HK.out)).mono ?_
      rintro e w5 ⟨rfl, k5⟩
      have H5 := Lib.hid ((HA.out.2.2.2.trans' HK.out).trans' k5)
      clear k5
      go_wp2_with (fail)
      go_ret
      exact ⟨rfl, H5.out⟩
end Go.Proofs.YtgdioalhlmnhhaaDoor
