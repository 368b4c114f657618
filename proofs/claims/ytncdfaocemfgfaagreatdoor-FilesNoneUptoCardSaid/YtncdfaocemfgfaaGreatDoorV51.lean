/- Walks and lemmas on the program of this seat, used by its statements; each theorem bears its own conditions. -/
import Derived.Test.YtncdfaocemfgfaaGreatDoorV49
import Derived.Test.YtncdfaocemfgfaaGreatDoorV50
namespace Go.Proofs.YtncdfaocemfgfaaGreatDoor
open Go.RowKit
set_option linter.unusedVariables false
set_option linter.unusedSimpArgs false
set_option linter.unusedSectionVars false
set_option maxHeartbeats 16000000
set_option maxRecDepth 100000
theorem noneLaw_any (w : World) (U : List Nat) (hU : TabsU w U) (m : Int) (sv : Value) (l : List Op16) (hl : OpsAt16 w sv l) :
  Calls Tryz.prog 4 #[.agg #[I m, sv]] w fun e w' => e = .returned (.bool true) ∧ Kept [] w w' := by
 obtain ⟨lp, lc, lb, lo, rfl, hlp, hcells, hok, hll, hlc⟩ := hl
 obtain ⟨W, hW⟩ : ∃ W, w.alloc (.cells #[I m, .slice lp l.length lc] 40) = W := ⟨_, rfl⟩
 have k0 : Kept [] w W := by rw [← hW]; exact (Kept.refl _ _).alloc _
 have hnew := heap_new w (.cells #[I m, .slice lp l.length lc] 40)
 rw [hW] at hnew
 obtain ⟨ob, hob⟩ : ∃ ob, w.heap.size = ob := ⟨_, rfl⟩
 rw [hob] at hnew
 have c0 := cell_at hnew 0
 have c1 := cell_at hnew 1
 simp only [List.getElem?_toArray, List.getElem?_cons_zero, List.getElem?_cons_succ] at c0 c1
 have HLA := Lib.hid (laid16_any W m)
 have hn8 := blk16_bound m
 obtain ⟨n, hn⟩ : ∃ n, blk16 m = n := ⟨_, rfl⟩
 rw [hn] at HLA hn8
 have HN := Lib.hid (And.intro hn8.1 hn8.2.1)
 have HU := Lib.hid (And.intro (hU.same k0) k0)
 have HC := Lib.hid (And.intro hlp (And.intro hcells hok))
 have C1 := Lib.hid c1
 have hlI : (l.length : Int) ≤ 4611686018427387904 := by omega
 clear hU k0 hcells hlp hok hnew hn8 hn c1
 go_enter Tryz.func4, Tryz.ntmps4
 go_wp2_with (simp only [hW, hob]; done)
 refine HLA.out.mono ?_
 intro e w2 hla
 obtain ⟨fb, ff, mb0, sb, rfl, hs, hD⟩ := laid_lf hla HU.out.1
 have H2 := Lib.hid (And.intro hs hD)
 clear hs hD hla HLA c0 hW hob
 go_wp2_with (fail)
 go_loopw [5, 6] (fun v5 v6 wr => ∃ (i mb g : Nat) (E : List Nd) (v : Value) (M : List Nat), v6 = I i ∧ v5 = Ptr mb ∧ i ≤ 100 ∧ g ≤ i ∧ E.length ≤ i ∧ Lf W wr ff fb sb n (62 * i) g E M ∧ Df wr mb n g v E M) (fun _ v6 _ => 100 - (intOf v6).toNat)
 case atStart => exact ⟨0, mb0, 0, [], _, _, rfl, rfl, by omega, Nat.le_refl _, Nat.le_refl _, H2.out.1, H2.out.2⟩
 case round =>
  obtain ⟨i, mb, g, E, v, M, rfl, rfl, hi, hg, hE, hs, hD⟩ := hrel
  have k1 := hs.old
  have b1 := k1.cellOf C1.out
  have HS := Lib.hid (And.intro hs hD)
  by_cases hlt : i < l.length
  ·have hltI : (i : Int) < l.length := by omega
   by_cases hlt2 : i < 100
   ·have hlt2I : (i : Int) < 100 := by omega
    have hpe := HC.out.1 (by intro h; rw [h] at hlt; simp at hlt)
    subst hpe
    have hMlt : ∀ x ∈ M, x < wr.heap.size := fun x hx => by obtain ⟨_, _, _, _, _, h3, _⟩ := hs; exact (h3 x hx).2.2.1
    have HCP := Lib.hid (rcopy16_any wr mb n g v E hD.1 (fun q hq => hMlt q (hD.2.2 q hq)))
    clear hs hD k1 H2
    go_wp2_with (fail)
    refine HCP.out.mono ?_
    rintro e w3 ⟨mb2, rfl, g1, g2, hD2, k3⟩
    have hsM := HS.out.1.more k3 [mb2] (fun x hx => ⟨by simp at hx; omega, by simp at hx; omega⟩)
    have hDM := HS.out.2.kept k3 (by simp)
    have hne : mb2 ≠ mb := by have := HS.out.2.1.lt; omega
    have kk := (HU.out.2.trans' hsM.old)
    obtain ⟨x0, x1, x2, x3, x4, x5, x6⟩ := HC.out.2.1 i hlt
    replace x0 := kk.cellOf x0
    replace x1 := kk.cellOf x1
    replace x2 := kk.cellOf x2
    replace x3 := kk.cellOf x3
    replace x4 := kk.cellOf x4
    replace x5 := kk.cellOf x5
    replace x6 := kk.cellOf x6
    have b2 := k3.cellOf b1
    have hoo := HC.out.2.2 l[i] (List.getElem_mem hlt)
    obtain ⟨o, ho⟩ : ∃ o, l[i] = o := ⟨_, rfl⟩
    rw [ho] at x0 x1 x2 x3 x4 x5 x6 hoo
    have HCH := Lib.hid (change_any w3 hsM ⟨hDM.1, List.mem_cons_of_mem _ hDM.2.1, fun q hq => List.mem_cons_of_mem _ (hDM.2.2 q hq)⟩ o hoo (by omega) (by have := HN.out; omega) (by omega) (by omega) (by omega))
    have HDB : Hid (∀ w' M', (∀ x ∈ [mb2] ++ M, x ∈ M') → (∀ x ∈ [mb2] ++ M, x ≠ mb → ∀ b, w3.heap[x]? = some b → w'.heap[x]? = some b) → Df w' mb2 n g v E M') := Lib.hid (fun w' M' hM hk => by
     have hd0 : Df w3 mb2 n g v E ([mb2] ++ M) := ⟨hD2, List.mem_cons_self, fun q hq => List.mem_cons_of_mem _ (hDM.2.2 q hq)⟩
     refine hd0.beside (fun x hx hor b hb => hk x hx (fun e => ?_) b hb) hM
     rcases hor with rfl | hq
     ·exact hne e
     ·exact hDM.1.own x hq e)
    have HG := Lib.hid (change_grown (n := n) HS.out.1.wf o)
    obtain ⟨R, hR⟩ : ∃ R, changeF n g E o = R := ⟨_, rfl⟩
    rw [hR] at HCH HG
    obtain ⟨kd, at0, n0, p, t, s, mk⟩ := o
    unfold Op16.cs at HCH
    simp only at HCH x0 x1 x2 x3 x4 x5 x6
    clear hsM hDM hD2 kk hoo ho k3 hMlt hR
    go_wp2_with (fail)
    refine HCH.out.mono ?_
    rintro e w4 ⟨rfl, v', M', hM, hs, hD, hk⟩
    have HDW := Lib.hid (HDB.out w4 M' hM hk)
    have HS4 := Lib.hid (And.intro hs hD)
    clear hM hs hD hk HDB HCH
    by_cases hr : R.1 = 0
    ·have hrb : (R.1 == 0) = true := by simpa using hr
     go_wp2_with (fail)
     go_roundw
     case rel => exact ⟨i + 1, mb, R.2.1, R.2.2, v', M', by go_num, rfl, by omega, by have := HG.out.gv; omega, by have := HG.out.few; omega, HS4.out.1.mono (by have := HN.out; omega) (by omega), HS4.out.2⟩
     case measure => simp [intOf]; omega
    ·have hrb : (R.1 == 0) = false := by simpa using hr
     have hno := HG.out.no hr
     have hl5 : Lf W w4 ff fb sb n (62 * (i + 1)) g E M' := by
      have h := HS4.out.1
      rw [hno] at h
      exact h.mono (by have := HN.out; omega) (by omega)
     have HH := Lib.hid (fholds_yes w4 hl5 HDW.out)
     have H5 := Lib.hid hl5
     clear hl5 hno
     go_wp2_with (fail)
     refine HH.out.mono ?_
     rintro e w5 ⟨rfl, k5⟩
     have K5 := Lib.hid k5
     clear k5 HH
     go_wp2_with (fail)
     go_roundw
     case rel => exact ⟨i + 1, mb2, g, E, v, M', by go_num, rfl, by omega, by omega, by omega, H5.out.same K5.out, HDW.out.kept K5.out (by simp)⟩
     case measure => simp [intOf]; omega
   ·have hlt2I : ¬ (i : Int) < 100 := by omega
    obtain ⟨U8, hU8⟩ := hs.tabs
    have HF := Lib.hid (fixed16_any wr U8 hU8)
    clear hs hD k1 H2 hU8
    go_wp2_with (fail)
    refine HF.out.mono ?_
    rintro e w9 ⟨rfl, k9⟩
    have HKK := Lib.hid ((HU.out.2.trans' HS.out.1.old).trans' k9)
    clear k9
    go_wp2_with (fail)
    go_ret
    exact ⟨rfl, HKK.out⟩
  ·have hltI : ¬ (i : Int) < l.length := by omega
   obtain ⟨U8, hU8⟩ := hs.tabs
   have HF := Lib.hid (fixed16_any wr U8 hU8)
   clear hs hD k1 H2 hU8
   go_wp2_with (fail)
   refine HF.out.mono ?_
   rintro e w9 ⟨rfl, k9⟩
   have HKK := Lib.hid ((HU.out.2.trans' HS.out.1.old).trans' k9)
   clear k9
   go_wp2_with (fail)
   go_ret
   exact ⟨rfl, HKK.out⟩
end Go.Proofs.YtncdfaocemfgfaaGreatDoor
