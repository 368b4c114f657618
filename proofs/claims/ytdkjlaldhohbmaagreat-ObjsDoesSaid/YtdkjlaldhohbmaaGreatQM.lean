/- Walks and lemmas on the program of this seat, used by its statements; each theorem bears its own conditions. -/
import Derived.Test.YtdkjlaldhohbmaaGreatQL
import Derived.Test.YtdkjlaldhohbmaaGreatPI
import Derived.Handy
import Derived.OwnWalk
import Derived.Deep.AppendLies
import Derived.IntWalk
import Derived.Deep.CutRange
import Derived.Deep.RegionHeld3
import Derived.Deep.RegionLaw
import Derived.Maps.OwnSet
import Derived.Maps.Range
import Derived.Deep.OwnRows
import Derived.Shelf.SlMaps.Clone
import Derived.Laws.CopyOwn
import Derived.Laws.IdiomCopy
namespace Go.Proofs.YtdkjlaldhohbmaaGreat
open Go.RowKit
set_option linter.unusedVariables false
set_option linter.unusedSimpArgs false
set_option maxHeartbeats 8000000
set_option maxRecDepth 100000
/-! ### ObjsDoes -/
/-- A store, its flash, and the document's store. -/
def LawAt (W w : World) (fb sb rb n : Nat) (V : OM) (d : Nat) : Prop := ∃ v, DocAt w rb n v V ∧ (∀ q, v.ownBlock = some q → q ≠ rb ∧ W.heap.size ≤ q) ∧ W.heap.size ≤ rb ∧ LW W w (rb :: v.ownBlock.toList) (PST fb sb n V d) w
theorem LawAt.old {W w : World} {fb sb rb n : Nat} {V : OM} {d : Nat} (h : LawAt W w fb sb rb n V d) : Kept [] W w := by obtain ⟨v, h1, h2, h3, h4⟩ := h; exact h4.old
theorem LawAt.mono {W w : World} {fb sb rb n : Nat} {V : OM} {d d' : Nat} (h : LawAt W w fb sb rb n V d) (hd : d ≤ d') : LawAt W w fb sb rb n V d' := by
  obtain ⟨v, h1, h2, h3, T, h4, h5⟩ := h
  exact ⟨v, h1, h2, h3, T, h4.mono hd, h5⟩
theorem LawAt.same {W w w' : World} {fb sb rb n : Nat} {V : OM} {d : Nat} (h : LawAt W w fb sb rb n V d) (k : Kept [] w w') : LawAt W w' fb sb rb n V d := by
  obtain ⟨v, h1, h2, h3, h4⟩ := h
  exact ⟨v, ⟨k.at h1.1 (by simp), h1.2.same k⟩, h2, h3, (h4.samep k).rebase⟩
theorem laid_law {n : Nat} {W w' : World} {e : Ending} (h : LaidPost n W e w') (h8 : 8 ≤ n) :
    ∃ fb sb rb, e = .returned (.tuple #[Ptr fb, Ptr sb, Ptr rb]) ∧ LawAt W w' fb sb rb n [] 0 := by
  obtain ⟨fb, bb, cb, pb, sb, lb, mb, kb, rb, v, h1, h2, h3, h4, h5⟩ := laid_sv h h8
  have hrl := lt_of_block h3
  have hlt := h2.lt
  have hT : ∀ x ∈ pb :: StT sb lb fb bb cb mb kb v, W.heap.size ≤ x ∧ x < rb := fun x hx => by
    rcases List.mem_cons.1 hx with rfl | hx
    · exact h4 _ (.inr rfl)
    · exact h4 _ (.inl hx)
  refine ⟨fb, sb, rb, h1, .slice none 0 0, ⟨h3, PsAt.nil _⟩, (fun q (hq : none = some q) => by cases hq), by have := hT pb List.mem_cons_self; omega, _, ⟨bb, cb, pb, lb, mb, kb, v, rfl, h2⟩, fun x hx => by have := hT x hx; omega, fun x hx => ?_, fun x hx => (hT x hx).1, h5⟩
  have : x = rb := by
    rcases List.mem_cons.1 hx with h | h
    · exact h
    · cases h
  subst this
  exact ⟨fun hm => by have := hT _ hm; omega, hrl, rfl⟩
def keysA (K : List Int) (fr : Int) (m : Nat) (k : Nat) : List Int := ((K.take k).filter fun x => decide (fr ≤ x)).take m
theorem keysA_all (K : List Int) (fr : Int) (m : Nat) : keysA K fr m K.length = (K.filter fun x => decide (fr ≤ x)).take m := by unfold keysA; rw [List.take_length]
theorem keysA_len (K : List Int) (fr : Int) (m k : Nat) : (keysA K fr m k).length ≤ k := by
  unfold keysA
  rw [List.length_take]
  have := List.length_filter_le (fun x => decide (fr ≤ x)) (K.take k)
  rw [List.length_take] at this
  omega
theorem keysA_next (K : List Int) (fr : Int) (m k : Nat) (hk : k < K.length) : keysA K fr m (k + 1) = if fr ≤ K[k] ∧ (keysA K fr m k).length < m then keysA K fr m k ++ [K[k]] else keysA K fr m k := by
  unfold keysA
  rw [List.take_succ_eq_append_getElem hk, takeF_snoc]
  simp only [decide_eq_true_eq]
theorem keysA_pre (K : List Int) (fr : Int) (m k : Nat) : ∃ t, keysA K fr m K.length = keysA K fr m k ++ t := by
  unfold keysA
  rw [List.take_length]
  conv => enter [1, t, 1]; rw [← List.take_append_drop k K]
  rw [List.filter_append, List.take_append]
  exact ⟨_, rfl⟩
theorem keysA_at (K : List Int) (fr : Int) (m k : Nat) (hk : k < K.length) (h1 : fr ≤ K[k]) (h2 : (keysA K fr m k).length < m) : (keysA K fr m K.length)[(keysA K fr m k).length]? = some K[k] := by
  obtain ⟨t, ht⟩ := keysA_pre K fr m (k + 1)
  rw [keysA_next K fr m k hk, if_pos ⟨h1, h2⟩] at ht
  rw [ht, List.append_assoc, List.getElem?_append_right (Nat.le_refl _), Nat.sub_self]
  rfl
set_option maxHeartbeats 8000000 in
theorem does_law (w : World) (m : Int) (v : Value) (l : List OpC) (hl : OpsAt w v l) :
    Calls Tryz.prog 8 #[.agg #[I m, v]] w fun e w' => e = .returned (.bool true) ∧ Kept [] w w' := by
  obtain ⟨W, hW⟩ : ∃ W, w.alloc (.cells #[I m, v] 24) = W := ⟨_, rfl⟩
  have k1 : Kept [] w W := by rw [← hW]; exact (Kept.refl [] w).alloc _
  have hl1 := hl.same k1
  obtain ⟨p, c, b, o, rfl, hp, hc, hlc, hll⟩ := hl1
  have hnew := heap_new w (.cells #[I m, .slice p l.length c] 24)
  rw [hW] at hnew
  have c0 := cell_at hnew 0
  have c1 := cell_at hnew 1
  simp only [List.getElem?_toArray, List.getElem?_cons_zero, List.getElem?_cons_succ] at c0 c1
  obtain ⟨wb, hwb⟩ : ∃ wb, w.heap.size = wb := ⟨_, rfl⟩
  rw [hwb] at c0 c1
  have hn8 := blkF_bound m
  have HLA := Lib.hid (laid15_any W m)
  obtain ⟨n, hn⟩ : ∃ n, blkF m = n := ⟨_, rfl⟩
  rw [hn] at HLA hn8
  have HC := Lib.hid (And.intro hp (And.intro hc (And.intro hlc hll)))
  have C1 := Lib.hid c1
  have K1 := Lib.hid k1
  have HN := Lib.hid (And.intro hn8.1 hn8.2.1)
  have hlI : (l.length : Int) ≤ 4611686018427387904 := by omega
  have hn1 : 8 ≤ n := hn8.1
  clear hl hp hc hlc hll hnew k1 hn hn8 c1
  go_enter Tryz.func8, Tryz.ntmps8
  go_wp2_with (fail)
  refine HLA.out.mono ?_
  intro e w2 hla
  obtain ⟨fb, sb, rb, rfl, hs⟩ := laid_law hla hn1
  have H2 := Lib.hid hs
  clear hs hla HLA c0 hW hwb hn1
  go_wp2_with (fail)
  go_loopw [3, 4, 6] (fun v3 v4 v6 wr => ∃ (i fb sb : Nat) (V : OM), i ≤ 200 ∧ v6 = I i ∧ v3 = Ptr fb ∧ v4 = Ptr sb ∧ LawAt W wr fb sb rb n V (i * n)) (fun _ _ v6 _ => 200 - (intOf v6).toNat)
  case atStart => exact ⟨0, fb, sb, [], by omega, rfl, rfl, rfl, by rw [Nat.zero_mul]; exact H2.out⟩
  case round =>
    obtain ⟨i, fb, sb, V, hi, rfl, rfl, rfl, hs⟩ := hrel
    have e1 := hs.old.cellOf C1.out
    have HS := Lib.hid hs
    clear hs H2
    by_cases hgo : i < l.length ∧ i < 200
    · obtain ⟨hj, hlt⟩ := hgo
      have hltI : (i : Int) < 200 := by omega
      have hjI : (i : Int) < l.length := by omega
      obtain ⟨hp, hc, hlc, hll⟩ := HC.out
      have hpe := hp (by intro h; rw [h] at hj; simp at hj)
      subst hpe
      obtain ⟨x0, x1, x2, x3, cv, x4, x5⟩ := hc i hj
      have y0 := HS.out.old.cellOf x0
      have y1 := HS.out.old.cellOf x1
      have y2 := HS.out.old.cellOf x2
      have y3 := HS.out.old.cellOf x3
      have y4 := HS.out.old.cellOf x4
      have hcl := hlc _ (List.getElem_mem hj)
      obtain ⟨⟨kd, on, okp, om, ch⟩, hop⟩ : ∃ x, l[i] = x := ⟨_, rfl⟩
      rw [hop] at y0 y1 y2 y3 x5 hcl
      simp only at y0 y1 y2 y3 x5 hcl
      have x6 := chs_lt x5
      obtain ⟨q5, c5, bq, oq, hcv, hpq, hcq⟩ := id x5
      subst hcv
      have HX := Lib.hid (And.intro x5 (And.intro x6 hcl))
      clear hpq hcq
      clear hp hc hlc hll x0 x1 x2 x3 x4 x5 x6 hcl hop
      go_upto_region 8 with (fail)
      obtain ⟨W1, hW1⟩ : ∃ W1, wr.alloc (.cells #[I kd, I on, I okp, B om, .slice q5 ch.length c5] 32) = W1 := ⟨_, rfl⟩
      have k1w : Kept [] wr W1 := by rw [← hW1]; exact (Kept.refl _ _).alloc _
      have hb1 : W1.heap[wr.heap.size]? = some (.cells #[I kd, I on, I okp, B om, .slice q5 ch.length c5] 32 (0, 0)) := by rw [← hW1]; exact heap_new wr _
      rw [show wr.alloc (.cells #[I kd, I on, I okp, B om, .slice q5 ch.length c5] 32) = W1 from hW1]
      obtain ⟨v, hdoc, hvq, hrW, hlw⟩ := HS.out
      have hlt1 := lt_of_block hb1
      have hlw1 := hlw.add k1w (fun T hT => hT.same k1w) (Nat.le_refl _) hlt1
      have hdoc1 : DocAt W1 rb n v V := ⟨k1w.at hdoc.1 (by simp), hdoc.2.same k1w⟩
      obtain ⟨ob, hob⟩ : ∃ ob, wr.heap.size = ob := ⟨_, rfl⟩
      rw [hob] at hb1 hlw1
      have g0 := cell_at hb1 0
      have g1 := cell_at hb1 1
      have g2 := cell_at hb1 2
      have g4 := cell_at hb1 4
      have r0 := cell_at hdoc1.1 0
      have r1 := cell_at hdoc1.1 1
      simp only [List.getElem?_toArray, List.getElem?_cons_zero, List.getElem?_cons_succ] at g0 g1 g2 g4 r0 r1
      have HG := Lib.hid (And.intro g0 (And.intro g1 (And.intro g2 (And.intro g4 (And.intro r0 r1)))))
      have HL := Lib.hid (And.intro hlw1 (And.intro hdoc1 (And.intro hvq (And.intro hrW k1w))))
      rw [hob]
      clear k1w hb1 hW1 hdoc hvq hrW hlw hlt1 hlw1 hdoc1 y0 y1 y2 y3 y4 g1 g2 r0 g4 hob r1
      iterate 10 go_step
      go_cut [3, 4] from 45 to 126 (fun v3 v4 wx => ∃ (fb' sb' : Nat) (V' : OM), v3 = Ptr fb' ∧ v4 = Ptr sb' ∧ LawAt W wx fb' sb' rb n V' ((i + 1) * n) ∧ wx.cell? ⟨ob, 1, none⟩ = some (I on) ∧ wx.cell? ⟨ob, 2, none⟩ = some (I okp))
      case first =>
        have hbd := HN.out
        have hin : i * n ≤ 200 * 20 := Nat.mul_le_mul hi hbd.2
        have HIN : Hid (i * n ≤ 200 * 20 ∧ (i + 1) * n = i * n + n) := Lib.hid (And.intro hin (Nat.succ_mul i n))
        have hUr : ∀ q, v.ownBlock = some q → q ∈ ob :: rb :: v.ownBlock.toList := fun q hq => by simp [hq]
        have HU := Lib.hid hUr
        clear hbd hin hUr
        by_cases q0 : kd = 0
        · have p0 : (kd == 0) = true := by simpa using q0
          clear q0
          have HM := Lib.hid (lw_may HL.out.1 ch (.slice q5 ch.length c5) (HX.out.1.same HL.out.1.old) HX.out.2.2)
          obtain ⟨y, hy⟩ : ∃ y, mayF n V ch = y := ⟨_, rfl⟩
          rw [hy] at HM
          have g4 := HG.out.2.2.2.1
          go_wp2_with (fail)
          refine HM.out.mono ?_
          rintro e w3 ⟨rfl, k3, hlw3⟩
          have g4' := k3.cellOf g4
          have HP := Lib.hid (lw_put hlw3 (by have := HIN.out.1; omega) ch (.slice q5 ch.length c5) (HX.out.1.same hlw3.old) HX.out.2.1 HX.out.2.2)
          rw [hy] at HP
          clear g4 k3 hlw3 HM
          go_wp2_with (fail)
          refine HP.out.mono ?_
          rintro e w4 ⟨rfl, hlw4⟩
          have g4 := hlw4.cell (by simp) HG.out.2.2.2.1
          obtain ⟨a1, a2, a3, a4⟩ := HL.out.1.rd.facts
          have hsm := HL.out.1.small
          have hdoc4 := hlw4.doc HL.out.2.1 (by simp) HU.out
          have HR := Lib.hid (rput_any w4 rb n v V hdoc4 (fun q hq => (HL.out.2.2.1 q hq).1) a1 hsm.1 hsm.2 a3 (fun p hp => (a2 p hp).2.2) (.slice q5 ch.length c5) ch (HX.out.1.same hlw4.old) HX.out.2.2)
          rw [hy] at HR
          have H4 := Lib.hid hlw4
          clear g4' hlw4 HP a1 a2 a3 a4 hsm hdoc4
          go_wp2_with (fail)
          refine HR.out.mono ?_
          rintro e w5 ⟨rfl, v5, hdoc5, hv5, k5⟩
          have H5 := Lib.hid (And.intro hdoc5 (And.intro hv5 k5))
          clear hdoc5 hv5 k5 HR g4
          go_wp2_with (fail)
          go_meet
          obtain ⟨hdoc5, hv5, k5⟩ := H5.out
          obtain ⟨hlw1, hdoc1, hvq, hrW, k1w⟩ := HL.out
          have hlw4 := H4.out
          have hlt4 : ∀ x ∈ ob :: rb :: v.ownBlock.toList, x < w4.heap.size := fun x hx => by
            obtain ⟨T, _, _, h3, _⟩ := hlw4
            exact (h3 x hx).2.1
          have hob : ob ≠ rb := by
            intro e
            obtain ⟨T, _, _, h3, _⟩ := hlw1
            have hc1 := HG.out.2.1
            have hc2 := hdoc1.1
            rw [e, cell_at hc2] at hc1
            have h5 := HG.out.2.2.1
            rw [e, cell_at hc2] at h5
            cases h5
          have hlw5 := hlw4.beside (rb := rb) (by simp) k5 (U' := rb :: v5.ownBlock.toList) (fun x hx => by
            rcases List.mem_cons.1 hx with rfl | hx
            · exact .inl (by simp)
            · rcases hv5 x (by simpa using hx) with h | h
              · exact .inl (by simp [h])
              · exact .inr h) hrW
          have ho1 := hlw4.cell (by simp) HG.out.2.1
          have ho2 := hlw4.cell (by simp) HG.out.2.2.1
          refine ⟨fb, sb, putF n V ch, rfl, rfl, ⟨v5, hdoc5, fun q hq => ?_, hrW, by rw [HIN.out.2]; exact hlw5⟩, (k5.cell (p := ⟨ob, 1, none⟩) (hlt4 ob (by simp)) (by simpa using hob)).trans ho1, (k5.cell (p := ⟨ob, 2, none⟩) (hlt4 ob (by simp)) (by simpa using hob)).trans ho2⟩
          rcases hv5 q hq with h | h
          · exact hvq q h
          · have := hlt4 rb (by simp)
            have := hlw4.old.size
            exact ⟨by omega, by omega⟩
        have p0 : (kd == 0) = false := by simpa using q0
        by_cases q2 : kd = 2
        · have p2 : (kd == 2) = true := by simpa using q2
          clear q0 q2
          go_wp2_with (fail)
          refine (lw_crash HL.out.1).mono ?_
          rintro e w3 ⟨rfl, h3⟩
          have HM := Lib.hid (lw_gmay h3 (.slice none 0 0))
          have HP := Lib.hid (lw_gput h3 (.slice none 0 0))
          clear h3
          go_wp2_with (fail)
          refine HM.out.mono ?_
          rintro e w4 ⟨rfl, hw⟩
          replace hw := hw.symm
          subst hw
          go_wp2_with (fail)
          refine HP.out.mono ?_
          rintro e w4 ⟨rfl, h4⟩
          have HD := Lib.hid (lw_gdead h4)
          have hdoc4 := h4.doc HL.out.2.1 (by simp) HU.out
          have HHD := Lib.hid (lw_gholds h4 v hdoc4.2)
          have r1 := h4.cell (by simp) HG.out.2.2.2.2.2
          clear h4 hdoc4
          go_wp2_with (fail)
          refine HD.out.mono ?_
          rintro e w5 ⟨rfl, hw⟩
          replace hw := hw.symm
          subst hw
          go_wp2_with (fail)
          refine HHD.out.mono ?_
          rintro e w5 ⟨rfl, h5⟩
          have H5 := Lib.hid h5
          clear h5 r1
          go_wp2_with (fail)
          refine (lw_revive H5.out).mono ?_
          rintro e w6 ⟨rfl, h6⟩
          have H6 := Lib.hid h6
          clear h6
          go_wp2_with (fail)
          refine (lw_over H6.out).mono ?_
          rintro e w7 ⟨pb, rfl, h7⟩
          have H7 := Lib.hid h7
          clear h7
          go_wp2_with (fail)
          refine (lw_open H7.out (by have := HIN.out.1; omega)).mono ?_
          rintro e w8 ⟨sb', rfl, h8⟩
          have H8 := Lib.hid h8
          clear h8
          go_wp2_with (fail)
          go_meet
          obtain ⟨hlw1, hdoc1, hvq, hrW, k1w⟩ := HL.out
          have h8 := H8.out
          exact ⟨fb, sb', V, rfl, rfl, LawAt.mono (d := i * n) ⟨v, h8.doc hdoc1 (by simp) HU.out, hvq, hrW, (h8.sub (fun x hx => List.mem_cons_of_mem _ hx)).rebase⟩ (Nat.mul_le_mul_right n (Nat.le_succ i)), h8.cell (by simp) HG.out.2.1, h8.cell (by simp) HG.out.2.2.1⟩
        have p2 : (kd == 2) = false := by simpa using q2
        by_cases q3 : kd = 3
        · have p3 : (kd == 3) = true := by simpa using q3
          clear q0 q2 q3
          go_wp2_with (fail)
          refine (lw_fclone HL.out.1).mono ?_
          rintro e w3 ⟨fb2, rfl, h3⟩
          have H3 := Lib.hid h3
          clear h3
          go_wp2_with (fail)
          refine (lw_clover H3.out).mono ?_
          rintro e w4 ⟨pb2, rfl, h4⟩
          have H4 := Lib.hid h4
          clear h4
          go_wp2_with (fail)
          refine (lw_clclone H4.out).mono ?_
          rintro e w5 ⟨sb2, rfl, h5⟩
          obtain ⟨w6, hw6⟩ : ∃ w6, w5.alloc (.cells #[.int .i64 1, S [108, 101, 102, 116], .bool false] 59) = w6 := ⟨_, rfl⟩
          have k6 : Kept [] w5 w6 := by rw [← hw6]; exact (Kept.refl _ _).alloc _
          have hb6 : w6.heap[w5.heap.size]? = some (.cells #[.int .i64 1, S [108, 101, 102, 116], .bool false] 59 (0, 0)) := by rw [← hw6]; exact heap_new w5 _
          have hch6 : ChsAt w6 (.slice (some ⟨w5.heap.size, 0, none⟩) 1 1) [⟨1, [108, 101, 102, 116], false⟩] := by
            refine ⟨some ⟨w5.heap.size, 0, none⟩, 1, w5.heap.size, 0, rfl, fun _ => rfl, fun i hi => ?_⟩
            obtain rfl : i = 0 := by simp at hi; omega
            refine ⟨?_, ?_, ?_⟩ <;> (rw [cell_at hb6]; rfl)
          have hdoc5 := h5.doc HL.out.2.1 (by simp) HU.out
          have ho1 := k6.cellOf (h5.cell (by simp) HG.out.2.1)
          have ho2 := k6.cellOf (h5.cell (by simp) HG.out.2.2.1)
          have h6 := h5.add k6 (fun T hT => hT.same k6) (Nat.le_refl _) (lt_of_block hb6)
          have HP := Lib.hid (lw_clput h6 (by have := HIN.out.1; omega) [⟨1, [108, 101, 102, 116], false⟩] (.slice (some ⟨w5.heap.size, 0, none⟩) 1 1) hch6 (fun _ q hq T _ hUT => by
            have : q = w5.heap.size := slice_own hq
            subst this
            exact hUT _ (by simp)) (by simp))
          have H6 := Lib.hid (And.intro hdoc5 (And.intro k6 (And.intro ho1 ho2)))
          obtain ⟨y, hy⟩ : ∃ y, mayF n V [⟨1, [108, 101, 102, 116], false⟩] = y := ⟨_, rfl⟩
          rw [hy] at HP
          clear h5 k6 hb6 hch6 hdoc5 ho1 ho2 h6 hy
          go_wp2_with (fail)
          refine HP.out.mono ?_
          rintro e w7 ⟨rfl, h7⟩
          have H7 := Lib.hid h7
          clear h7 HP
          go_wp2_with (fail)
          refine (lw_clerase H7.out).mono ?_
          rintro e w8 ⟨rfl, h8⟩
          have H8 := Lib.hid h8
          clear h8
          go_wp2_with (fail)
          go_meet
          obtain ⟨hlw1, hdoc1, hvq, hrW, k1w⟩ := HL.out
          obtain ⟨hdoc5, k6, ho1, ho2⟩ := H6.out
          have h8 := H8.out
          have hdoc6 : DocAt w6 rb n v V := ⟨k6.at hdoc5.1 (by simp), hdoc5.2.same k6⟩
          exact ⟨fb2, sb2, V, rfl, rfl, LawAt.mono (d := i * n) ⟨v, h8.doc hdoc6 (by simp) (fun q hq => List.mem_cons_of_mem _ (HU.out q hq)), hvq, hrW, (h8.sub (fun x hx => List.mem_cons_of_mem _ (List.mem_cons_of_mem _ hx))).rebase⟩ (Nat.mul_le_mul_right n (Nat.le_succ i)), h8.cell (by simp) ho1, h8.cell (by simp) ho2⟩
        have p3 : (kd == 3) = false := by simpa using q3
        clear q0 q2 q3
        go_wp2_with (fail)
        go_meet
        obtain ⟨hlw1, hdoc1, hvq, hrW, k1w⟩ := HL.out
        exact ⟨fb, sb, V, rfl, rfl, LawAt.mono (d := i * n) ⟨v, hdoc1, hvq, hrW, hlw1.sub (fun x hx => List.mem_cons_of_mem _ hx)⟩ (Nat.mul_le_mul_right n (Nat.le_succ i)), HG.out.2.1, HG.out.2.2.1⟩
      case rest =>
        obtain ⟨fb', sb', V', rfl, rfl, hlaw, f1, f2⟩ := hcut
        have HLW := Lib.hid hlaw
        obtain ⟨v', hdoc, hvq, hrW, hlw⟩ := hlaw
        have hrd := hlw.rd
        obtain ⟨a1, a2, a3, a4⟩ := hrd.facts
        have hsm := hlw.small
        have hall : ∀ fr most, keysF V' fr most = keysA (V'.map (·.1)) fr most.toNat (V'.map (·.1)).length := fun fr most => by rw [keysA_all]; rfl
        have HKY := Lib.hid (fun W' (k : Kept [] wc W') => (hrd.same k).keys on okp)
        rw [hall] at HKY
        have HHO := Lib.hid (fun W' (k : Kept [] wc W') => holds_any W' sb' V' (hrd.same k) v' (hdoc.2.same k))
        have HDE := Lib.hid (fun W' (k : Kept [] wc W') => (hlw.samep k).look (fun T hT => stf_dead hT))
        have HQU := Lib.hid (fun W' (k : Kept [] wc W') => (hlw.samep k).look (fun T hT => stf_quota hT))
        have HRQ := Lib.hid (fun W' => rquota_any n hsm.1 (by omega) W')
        rw [show 7 * (n - 4) / 2 = quotaF n from rfl] at HRQ
        obtain ⟨QF, hQF⟩ : ∃ QF, quotaF n = QF := ⟨_, rfl⟩
        rw [hQF] at HQU HRQ
        have d0 := cell_at hdoc.1 0
        have d1 := cell_at hdoc.1 1
        simp only [List.getElem?_toArray, List.getElem?_cons_zero, List.getElem?_cons_succ] at d0 d1
        have hds : DS rb n v' wc wc := ⟨d0, d1, Kept.refl _ _⟩
        have HO := Lib.hid (And.intro f1 (And.intro f2 (And.intro hdoc.2 (And.intro a2 a3))))
        have HD1 := Lib.hid d1
        clear hdoc hvq hrW hlw hrd a1 a2 a3 a4 hsm hall hQF d0 d1 f1 f2 g0
        go_upto_region 29 with (fail)
        go_region_held3 (fun w' => DS rb n v' wc w')
          (first | with_reducible assumption | exact DS.step hds ((Kept.refl _ _).drew) | exact DS.step (by assumption) k2 | exact DS.step (by assumption) ((Kept.refl _ _).drew))
          (first
            | (go_at_call 24; (with_reducible refine (HHO.out _ (And.right (And.right (by assumption)))).mono ?_); rintro e w2 ⟨rfl, k2⟩)
            | (go_at_call 23; (with_reducible refine (HDE.out _ (And.right (And.right (by assumption)))).mono ?_); rintro e w3 ⟨rfl, rfl⟩)
            | (go_at_call 13; (with_reducible refine (HQU.out _ (And.right (And.right (by assumption)))).mono ?_); rintro e w4 ⟨rfl, rfl⟩)
            | (go_at_call 33; (with_reducible refine (HRQ.out _).mono ?_); rintro e w5 ⟨rfl, rfl⟩))
        rename_i hfin
        have hkf := hfin.2.2
        have f1 := hkf.cellOf HO.out.1
        have f2 := hkf.cellOf HO.out.2.1
        have HKF := Lib.hid hkf
        have hKY := Lib.hid (HKY.out _ hkf)
        clear hfin hds hkf HKY HHO HDE HQU HRQ
        go_wp2_with (fail)
        refine hKY.out.mono ?_
        rintro e w9 ⟨kv, rfl, own9, k9⟩
        obtain ⟨p9, c9, rfl⟩ := own_form own9
        have kc9 := HKF.out.trans' k9
        obtain ⟨pl, cl, gl, hv', hpl, hcl⟩ := HO.out.2.2.1
        subst hv'
        have hml : (mapA Ob.val V').length = V'.length := by unfold mapA; rw [List.length_map]
        have hKl : (V'.map (·.1)).length = V'.length := List.length_map ..
        have r1 : wc.cell? ⟨rb, 1, none⟩ = some (.slice pl V'.length cl) := by have := HD1.out; rw [hml] at this; exact this
        have H9 := Lib.hid (And.intro own9 (And.intro kc9 (And.intro r1 (And.intro hml hKl))))
        have HP : Hid ((V' ≠ [] → pl = some ⟨gl, 0, none⟩) ∧ ∀ (k : Nat) (hk : k < V'.length), wc.cell? ⟨gl, k * 2, none⟩ = some (I V'[k].1)) := Lib.hid (by
          refine ⟨fun hne => hpl (by intro hh; apply hne; rw [hh] at hml; exact List.length_eq_zero_iff.1 hml.symm), fun k hk => ?_⟩
          have := (hcl k (by rw [hml]; exact hk)).1
          unfold mapA at this
          simpa using this)
        have hVl : (V'.length : Int) ≤ 2000 := by have := HO.out.2.2.2.2; omega
        obtain ⟨LL, hLL⟩ : ∃ LL, keysA (V'.map (·.1)) on okp.toNat (V'.map (·.1)).length = LL := ⟨_, rfl⟩
        rw [hLL]
        have HLL := Lib.hid hLL
        have hLLl : (LL.length : Int) ≤ 2000 := by have := keysA_len (V'.map (·.1)) on okp.toNat (V'.map (·.1)).length; rw [hLL, hKl] at this; omega
        clear own9 kc9 r1 hml hKl hpl hcl hLL f1 f2 k9
        go_wp2_with (fail)
        go_loopw [16, 17] (fun v16 v17 wx => ∃ k : Nat, k ≤ V'.length ∧ v17 = I k ∧ v16 = I (keysA (V'.map (·.1)) on okp.toNat k).length ∧ Kept [] w9 wx) (fun _ v17 _ => V'.length - (intOf v17).toNat)
        case atStart => exact ⟨0, Nat.zero_le _, rfl, by simp [keysA], Kept.refl _ _⟩
        case round =>
          obtain ⟨k, hk, rfl, rfl, kx⟩ := hrel
          have kcx := H9.out.2.1.trans' kx
          have r1 := kcx.cellOf H9.out.2.2.1
          have f1 := kcx.cellOf HO.out.1
          have f2 := kcx.cellOf HO.out.2.1
          have hAl := keysA_len (V'.map (·.1)) on okp.toNat k
          have KX := Lib.hid kx
          by_cases hkl : k < V'.length
          · have hklI : (k : Int) < V'.length := by omega
            have hkK : k < (V'.map (·.1)).length := by rw [List.length_map]; exact hkl
            have hpe := HP.out.1 (by intro h; rw [h] at hkl; simp at hkl)
            subst hpe
            have e0 := kcx.cellOf (HP.out.2 k hkl)
            have hnx := keysA_next (V'.map (·.1)) on okp.toNat k hkK
            have hat := keysA_at (V'.map (·.1)) on okp.toNat k hkK
            rw [HLL.out] at hat
            simp only [List.getElem_map] at hnx hat
            obtain ⟨x, hx⟩ : ∃ x, V'[k].1 = x := ⟨_, rfl⟩
            obtain ⟨A, hA⟩ : ∃ A, keysA (V'.map (·.1)) on okp.toNat k = A := ⟨_, rfl⟩
            rw [hx] at e0 hnx hat
            rw [hA] at hnx hat hAl ⊢
            have hAI : (A.length : Int) ≤ 2000 := by omega
            have hkK2 : (k : Int) ≤ 2000 := by omega
            by_cases c1 : on ≤ x
            · by_cases c2 : (A.length : Int) < okp
              · have c2n : A.length < okp.toNat := by omega
                have hatx := hat c1 c2n
                have hlt9 := (List.getElem?_eq_some_iff.1 hatx).1
                have hltI : (A.length : Int) < LL.length := by omega
                rw [if_pos ⟨c1, c2n⟩] at hnx
                obtain ⟨g9, c9', e9, _, hc9⟩ := row_cells1 (by have := H9.out.1; rw [HLL.out] at this; exact this) (by omega : LL.length ≠ 0)
                cases e9
                have y9 := hc9 A.length hlt9
                rw [List.getElem?_map, hatx] at y9
                have z9 := kx.cellOf y9
                have hd1 : decide ((LL.length : Int) ≤ A.length) = false := decide_eq_false (by omega)
                have hd2 : decide (LL.length ≤ A.length) = false := decide_eq_false (by omega)
                have hd3 : decide (on ≤ x) = true := decide_eq_true c1
                have hd4 : decide ((A.length : Int) < okp) = true := decide_eq_true c2
                have HNX := Lib.hid hnx
                clear hnx hat hatx hc9 y9 hA hx hkK kcx hAl c2n
                go_wp2_with (fail)
                go_quiet (fail)
                go_wp2_with (fail)
                go_quiet (fail)
                go_wp2_with (fail)
                go_roundw
                case rel => exact ⟨k + 1, by omega, by go_num, by rw [HNX.out, List.length_append]; go_num, KX.out.drewN _⟩
                case measure => simp [intOf]; omega
              · have hd3 : decide (on ≤ x) = true := decide_eq_true c1
                have hd4 : decide ((A.length : Int) < okp) = false := decide_eq_false c2
                rw [if_neg (by rintro ⟨_, h⟩; omega)] at hnx
                have HNX := Lib.hid hnx
                clear hnx hat hA hx hkK kcx hAl
                go_wp2_with (fail)
                go_quiet (fail)
                go_wp2_with (fail)
                go_roundw
                case rel => exact ⟨k + 1, by omega, by go_num, by rw [HNX.out], KX.out.drewN _⟩
                case measure => simp [intOf]; omega
            · have hd3 : decide (on ≤ x) = false := decide_eq_false c1
              rw [if_neg (by rintro ⟨h, _⟩; exact c1 h)] at hnx
              have HNX := Lib.hid hnx
              clear hnx hat hA hx hkK kcx hAl
              go_wp2_with (fail)
              go_quiet (fail)
              go_wp2_with (fail)
              go_roundw
              case rel => exact ⟨k + 1, by omega, by go_num, by rw [HNX.out], KX.out.drewN _⟩
              case measure => simp [intOf]; omega
          · have hke : k = V'.length := by omega
            subst hke
            have hAe : keysA (V'.map (·.1)) on okp.toNat V'.length = LL := by rw [← HLL.out, H9.out.2.2.2.2]
            rw [hAe]
            have HKC := Lib.hid kcx
            clear kcx hAe hAl
            go_wp2_with (fail)
            go_roundw
            case rel => exact ⟨i + 1, fb', sb', V', by omega, by go_num, rfl, rfl, HLW.out.same HKC.out⟩
            case measure => simp [intOf]; omega
    · have hstop : (l.length : Int) ≤ i ∨ ((i : Int) < l.length ∧ (200 : Int) ≤ i) := by
        by_cases h1 : i < l.length
        · right
          have : ¬ i < 200 := fun h2 => hgo ⟨h1, h2⟩
          omega
        · left; omega
      clear hgo
      generalize l.length = LL at e1 hlI hstop ⊢
      rcases hstop with hst | ⟨hst, hst2⟩
      all_goals
        go_wp2_with (fail)
        refine (fixed_any _).mono ?_
        rintro e w3 ⟨rfl, k3⟩
        go_wp2_with (fail)
        go_ret
        exact ⟨rfl, (K1.out.trans' HS.out.old).trans' k3⟩
end Go.Proofs.YtdkjlaldhohbmaaGreat
