/- Walks and lemmas on the program of this seat, used by its statements; each theorem bears its own conditions. -/
import Derived.Test.YtncdfaocemfgfaaGreatDoorW4
import Derived.Handy
import Derived.OwnWalk
import Derived.Deep.AppendLies
import Derived.IntWalk
import Derived.Deep.CutRange
import Derived.Deep.RegionHeld3
import Derived.Deep.RegionLaw
namespace Go.Proofs.YtncdfaocemfgfaaGreatDoor
open Go.RowKit
set_option linter.unusedVariables false
set_option linter.unusedSimpArgs false
set_option linter.unusedSectionVars false
open Go.RowKit
set_option linter.unusedVariables false
set_option linter.unusedSimpArgs false
set_option maxHeartbeats 8000000
set_option maxRecDepth 100000
def fullB : List UInt8 := List.replicate 512 255
theorem blockOf_len {bs : List UInt8} {k : Nat} (h : 512 * k + 512 ≤ bs.length) : (blockOf bs k).length = 512 := by
  unfold blockOf; simp; omega
theorem blockOf_at {bs : List UInt8} {k i : Nat} (h : 512 * k + 512 ≤ bs.length) (hi : i < 512) : (blockOf bs k)[i]'(by rw [blockOf_len h]; exact hi) = bs[512 * k + i]'(by omega) := by
  unfold blockOf
  rw [List.getElem_take, List.getElem_drop]
theorem prog_same {bs s : List UInt8} {k o : Nat} (h : 512 * k + 512 ≤ bs.length) : blockOf (progL bs (512 * k + o) s) k = progL (blockOf bs k) o s := by
  apply List.ext_getElem
  · rw [blockOf_len (by unfold progL; rw [onL_len]; exact h)]
    unfold progL; rw [onL_len, blockOf_len h]
  · intro i h1 h2
    have hi : i < 512 := by rw [blockOf_len (by unfold progL; rw [onL_len]; exact h)] at h1; exact h1
    rw [blockOf_at (by unfold progL; rw [onL_len]; exact h) hi]
    simp only [progL, onL, List.getElem_mapIdx, blockOf_at h hi]
    by_cases hc : o ≤ i ∧ i < o + s.length
    · rw [if_pos hc, if_pos (by omega), show 512 * k + i - (512 * k + o) = i - o by omega]
    · rw [if_neg hc, if_neg (by omega)]
theorem prog_other {bs s : List UInt8} {k j o : Nat} (hj : 512 * j + 512 ≤ bs.length) (hn : j ≠ k) (ho : o + s.length ≤ 512) : blockOf (progL bs (512 * k + o) s) j = blockOf bs j := by
  apply List.ext_getElem
  · rw [blockOf_len (by unfold progL; rw [onL_len]; exact hj), blockOf_len hj]
  · intro i h1 h2
    have hi : i < 512 := by rw [blockOf_len hj] at h2; exact h2
    rw [blockOf_at (by unfold progL; rw [onL_len]; exact hj) hi, blockOf_at hj hi]
    simp only [progL, onL, List.getElem_mapIdx]
    rw [if_neg (by omega)]
theorem erase_same {bs : List UInt8} {k : Nat} (h : 512 * k + 512 ≤ bs.length) : blockOf (eraseL bs k) k = fullB := by
  apply List.ext_getElem
  · rw [blockOf_len (by unfold eraseL; rw [onL_len]; exact h)]; rfl
  · intro i h1 h2
    have hi : i < 512 := by rw [blockOf_len (by unfold eraseL; rw [onL_len]; exact h)] at h1; exact h1
    rw [blockOf_at (by unfold eraseL; rw [onL_len]; exact h) hi]
    simp only [eraseL, onL, List.getElem_mapIdx]
    rw [if_pos (by omega)]
    exact (List.getElem_replicate (by simpa using hi)).symm
theorem erase_other {bs : List UInt8} {k j : Nat} (hj : 512 * j + 512 ≤ bs.length) (hn : j ≠ k) : blockOf (eraseL bs k) j = blockOf bs j := by
  apply List.ext_getElem
  · rw [blockOf_len (by unfold eraseL; rw [onL_len]; exact hj), blockOf_len hj]
  · intro i h1 h2
    have hi : i < 512 := by rw [blockOf_len hj] at h2; exact h2
    rw [blockOf_at (by unfold eraseL; rw [onL_len]; exact hj) hi, blockOf_at hj hi]
    simp only [eraseL, onL, List.getElem_mapIdx]
    rw [if_neg (by omega)]
/-- What is programmed into bytes 255 lies there. -/
theorem prog_fill (P s : List UInt8) (m : Nat) (h : s.length ≤ m) : progL (P ++ List.replicate m 255) P.length s = P ++ (s ++ List.replicate (m - s.length) 255) := by
  apply List.ext_getElem
  · unfold progL; rw [onL_len]; simp; omega
  · intro i h1 h2
    simp only [progL, onL, List.getElem_mapIdx]
    by_cases c1 : i < P.length
    · rw [if_neg (by omega), List.getElem_append_left c1, List.getElem_append_left c1]
    · by_cases c2 : i < P.length + s.length
      · rw [if_pos (by omega), List.getElem_append_right (by omega), List.getElem_replicate, and_all, byteAt_eq s _ (by omega), List.getElem_append_right (by omega), List.getElem_append_left (by omega)]
      · rw [if_neg (by omega), List.getElem_append_right (by omega), List.getElem_replicate, List.getElem_append_right (by omega), List.getElem_append_right (by omega), List.getElem_replicate]
theorem prog_one (X Y : List UInt8) (c : UInt8) : progL (X ++ 255 :: Y) X.length [c] = X ++ c :: Y := by
  apply List.ext_getElem
  · unfold progL; rw [onL_len]; simp
  · intro i h1 h2
    simp only [progL, onL, List.getElem_mapIdx]
    by_cases c1 : i < X.length
    · rw [if_neg (by omega), List.getElem_append_left c1, List.getElem_append_left c1]
    · by_cases c2 : i = X.length
      · subst c2
        rw [if_pos (by simp), List.getElem_append_right (by omega), List.getElem_append_right (by omega)]
        simp [byteAt, and_all]
      · rw [if_neg (by simp; omega), List.getElem_append_right (by omega), List.getElem_append_right (by omega)]
        rw [List.getElem_cons, dif_neg (by omega), List.getElem_cons, dif_neg (by omega)]
def headL (num : Nat) : List UInt8 := 83 :: putN 6 num ++ 0 :: List.replicate 56 255
theorem headL_len (num : Nat) : (headL num).length = 64 := by simp [headL, putN_len]
theorem allB_full : allB fullB = true := by unfold allB fullB; simp
theorem made_block (num : Nat) : progL (progL fullB 0 (83 :: putN 6 num)) 7 [0] = headL num ++ List.replicate 448 255 := by
  have h1 := prog_fill [] (83 :: putN 6 num) 512 (by simp [putN_len])
  simp only [List.nil_append, List.length_nil] at h1
  unfold fullB
  rw [h1]
  have hl : (83 :: putN 6 num).length = 7 := by simp [putN_len]
  rw [hl, show 512 - 7 = 504 + 1 by omega, List.replicate_succ]
  have h2 := prog_one (83 :: putN 6 num) (List.replicate 504 255) 0
  rw [hl] at h2
  rw [h2]
  unfold headL
  rw [List.append_assoc, List.cons_append, show (504 : Nat) = 56 + 448 by omega, ← List.replicate_append_replicate]
  simp
theorem seg_info : (Tryz.prog.info? 214).map (fun i => (i.zero, i.size, i.bytes)) = some (some (.agg #[.int .i64 0, .int .i64 0]), 2, 16) := by kernel_rfl
theorem LgAt.setSegs {w : World} {lb pb fb bb cb fs n : Nat} {v v' : Value} {segs segs' : List Sg} {f : Fl} {dead : Bool} (h : LgAt w lb pb fb bb cb fs n v segs f dead) (o : w.ownsRow (lb + 1) 214 2 v' segs'.length (segCells segs')) : LgAt (w.setCell ⟨lb, 1, none⟩ v') lb pb fb bb cb fs n v' segs' f dead := by
  have k : Kept [lb] w (w.setCell ⟨lb, 1, none⟩ v') := (Kept.refl _ _).setCell (.inl (by simp)) _
  refine ⟨heap_setCell_at h.blk 1 _, own_kept o k (fun q hq hm => ?_), h.pt.kept k (by have := h.n1; simp; omega) (by have := h.n2; simp; omega) (by have := h.n3; simp; omega) (by have := h.n4; simp; omega), h.n1, h.n2, h.n3, h.n4⟩
  have := (own_lt o q hq).1
  simp at hm; omega
theorem kept_grown {w w' : World} {row : Option Nat} (g : w.grownBy w' row) : Kept row.toList w w' :=
  ⟨g.os, g.tape, g.output, g.size, fun k hk hn => g.block k hk (fun e => hn (by rw [← e]; simp))⟩
theorem own_form {w : World} {B : Nat} {t : TypeId} {size : Nat} {v : Value} {n : Nat} {xs : List Value} (h : w.ownsRow B t size v n xs) : ∃ p c, v = .slice p n c := by
  rcases h.2 with ⟨rfl, h0⟩ | ⟨g, cap, cur, rfl, _⟩
  · exact ⟨none, 0, by rw [h0]⟩
  · exact ⟨_, _, rfl⟩
def madeF (f : Fl) (fs k num : Nat) : Fl := { (f.stepped).stepped with bs := progL (progL f.bs (512 * fs + k * 512) (83 :: putN 6 num)) (512 * fs + (k * 512 + 7)) [0] }
set_option maxHeartbeats 4000000 in
theorem makes_any (w : World) (lb pb fb bb cb fs n : Nat) (v : Value) (segs : List Sg) (f : Fl) (h : LgAt w lb pb fb bb cb fs n v segs f false) (hd : f.dead = false) (ha : f.armed = 0) (k num : Nat) (hk : k < n) (hc : blockOf f.bs (fs + k) = fullB) (hnum : num < 256 ^ 6) (hs : segs.length ≤ 1000) :
    Calls Tryz.prog 150 #[Ptr lb, I k, I num] w (LgPost (I 0) lb pb fb bb cb fs n v w (segs ++ [(k, num)]) (madeF f fs k num) false) := by
  have HC := Lib.hid (lclean_any w lb pb fb bb cb fs n v segs f h hd k hk (by rw [hc]; exact allB_full))
  have HBG := Lib.hid (fun W => begin_any W num hnum)
  have hpl := putN_len 6 num
  have HW1 := Lib.hid (fun W (p : PtAt W pb fb bb cb fs n f) => pwrite_any W pb fb bb cb fs n f p hd ha (k * 512) (83 :: putN 6 num) (by simp) (by simp [putN_len]; omega) (by simp [putN_len]; omega))
  obtain ⟨f1, hf1⟩ : ∃ f1, ({ f.stepped with bs := progL f.bs (512 * fs + k * 512) (83 :: putN 6 num) } : Fl) = f1 := ⟨_, rfl⟩
  have hf1f : f1.dead = false ∧ f1.armed = 0 ∧ f1.bs = progL f.bs (512 * fs + k * 512) (83 :: putN 6 num) ∧ f1.cs = f.cs := by rw [← hf1]; exact ⟨hd, ha, rfl, rfl⟩
  have HW2 := Lib.hid (fun W (p : PtAt W pb fb bb cb fs n f1) => pwrite_any W pb fb bb cb fs n f1 p hf1f.1 hf1f.2.1 (k * 512 + 7) [0] (by simp) (by simp; omega) (by simp; omega))
  have hmf : ({ f1.stepped with bs := progL f1.bs (512 * fs + (k * 512 + 7)) [0] } : Fl) = madeF f fs k num := by rw [← hf1]; rfl
  rw [hmf] at HW2
  rw [hf1] at HW1
  have hkb := h.pt.bound.1
  have hkI : (k : Int) ≤ 256 := by omega
  obtain ⟨N, hN⟩ : ∃ N : Nat, k * 512 = N := ⟨_, rfl⟩
  obtain ⟨M, hM⟩ : ∃ M : Nat, N + 7 = M := ⟨_, rfl⟩
  have hN1 : (k : Int) * 512 = N := by omega
  have hN2 : (N : Int) ≤ 131072 := by omega
  have hM1 : (N : Int) + 7 = M := by omega
  rw [hN] at HW1
  rw [hN, hM] at HW2
  obtain ⟨i0, hi, hz0, hz1, hz2⟩ := info_parts seg_info
  have HI := Lib.hid (And.intro hi (And.intro hz0 (And.intro hz1 hz2)))
  obtain ⟨bg, hbg⟩ : ∃ bg, 83 :: putN 6 num = bg := ⟨_, rfl⟩
  rw [hbg] at HBG HW1
  have HS := Lib.hid hs
  clear h hd ha hk hc hnum hbg hpl hf1 hf1f hmf hi hz0 hz1 hz2 hkb hs hN hM
  go_enter Tryz.func150, Tryz.ntmps150
  go_wp2_with (fail)
  refine HC.out.mono ?_
  rintro e w1 ⟨rfl, h1, k1⟩
  have H1 := Lib.hid (And.intro h1 k1)
  obtain ⟨c0, c1, c2⟩ := h1.cells
  clear h1 k1
  have hm1 : IntKind.i64.wrap ((k : Int) * 512) = N := by rw [IntKind.wrap_i64]; omega
  have hm2 : IntKind.i64.wrap (N : Int) = N := by rw [IntKind.wrap_i64]; omega
  go_upto_region 4 with (fail)
  go_cut [8] from 16 to 26 (fun v8 wx => v8 = I 0 ∧ LgAt wx lb pb fb bb cb fs n v segs f1 false ∧ Kept (LgT lb fb bb cb v) w1 wx)
  case first =>
    go_region_with (first
      | (go_at_call 181; (with_reducible refine (HBG.out _).mono ?_); rintro e w2 ⟨rfl, k2⟩; have e0 := (H1.out.1.same ((Kept.refl [] w1).drew.trans' k2)).cells.1)
      | (go_at_call 180; (with_reducible refine (HW1.out _ (H1.out.1.same ((Kept.refl [] w1).drew.trans' k2)).pt).mono ?_); rintro e w3 ⟨rfl, h3, k3⟩)
      | (go_at_call 178; (with_reducible refine (ltold_any _ lb pb fb bb cb fs n v segs f1 false ((H1.out.1.same ((Kept.refl [] w1).drew.trans' k2)).turned k3 h3) 0).mono ?_); rintro e w4 ⟨rfl, h4, k4⟩))
    all_goals
      go_wp2
      go_meet
      exact ⟨rfl, h4, (LgT.sub0 ((Kept.refl [] w1).drew.trans' k2)).trans' ((LgT.sub3 k3).trans' (LgT.sub1 k4))⟩
  case rest =>
  obtain ⟨rfl, h2, k2⟩ := hcut
  have H2 := Lib.hid (And.intro h2 (((LgT.sub1 H1.out.2 : Kept (LgT lb fb bb cb v) w w1)).trans' k2))
  clear H1 c0 c1 c2
  obtain ⟨c0, c1, c2⟩ := h2.cells
  clear h2 k2
  go_wp2_with (fail)
  refine (HW2.out _ H2.out.1.pt).mono ?_
  rintro e w3 ⟨rfl, h3, k3⟩
  have H3 := Lib.hid (And.intro (H2.out.1.turned k3 h3) (H2.out.2.trans' (LgT.sub3 k3)))
  clear h3 k3 H2 c0 c1 c2
  go_wp2_with (fail)
  refine (ltold_any _ lb pb fb bb cb fs n v segs _ false H3.out.1 0).mono ?_
  rintro e w4 ⟨rfl, h4, k4⟩
  have k5 := H3.out.2.trans' (LgT.sub1 k4)
  obtain ⟨p, c, rfl⟩ := own_form h4.own
  obtain ⟨c0, c1, c2⟩ := h4.cells
  have H4 := Lib.hid (And.intro h4 k5)
  clear h4 k4 k5 H3
  obtain ⟨hi, hz0, hz1, hz2⟩ := HI.out
  go_wp2_with (first
    | (at_builtin
       refine wpList_append_lies _ rfl (.tmp 47) (.tmp 51) _ rfl (lb + 1) 214 i0 (.agg #[.int .i64 0, .int .i64 0]) 2 16 Tryz.underlying204 hi hz0 hz1 hz2 rfl (by decide) (.slice p segs.length c) segs.length (segCells segs) rfl (own_kept H4.out.1.own ((Kept.refl [] w4).alloc _) (by simp)) ⟨w4.heap.size, 0, none⟩ 1 1 [I k, I num] rfl rfl (World.news_of_block (heap_new w4 _)) (by intro u hu; simp at hu; rcases hu with rfl | rfl <;> rfl) (by omega) (by have := HS.out; unfold maxLen; omega) (by have := HS.out; omega) (by rw [World.size_alloc]; have := H4.out.1.lt; omega) _ rfl ?_
       intro g cap wa own1 gr1 hat hlt
       have kg := kept_grown gr1
       have kw : Kept (LgT lb fb bb cb (.slice p segs.length c)) w4 wa := (LgT.sub0 ((Kept.refl [] w4).alloc _)).trans' (kg.mono (by intro x hx; simp [LgT] at hx ⊢; simp [hx]))
       have hblk : wa.heap[lb]? = some (.cells #[Ptr pb, .slice p segs.length c, .bool false] 206 (0, 0)) := kg.at (((Kept.refl [] w4).alloc _).at H4.out.1.blk (by simp)) (by intro hm; have := (own_lt H4.out.1.own lb (by simpa using hm)).1; omega)
       have hp : PtAt wa pb fb bb cb fs n (madeF f fs k num) := (H4.out.1.pt.same ((Kept.refl [] w4).alloc _)).kept kg (by intro hm; have := (own_lt H4.out.1.own pb (by simpa using hm)).1; have := H4.out.1.n1; omega) (by intro hm; have := (own_lt H4.out.1.own fb (by simpa using hm)).1; have := H4.out.1.n2; omega) (by intro hm; have := (own_lt H4.out.1.own bb (by simpa using hm)).1; have := H4.out.1.n3; omega) (by intro hm; have := (own_lt H4.out.1.own cb (by simpa using hm)).1; have := H4.out.1.n4; omega)
       have d1 : wa.cell? ⟨lb, 1, none⟩ = some (.slice p segs.length c) := by rw [cell_at hblk]; rfl
       have df : ∀ i, wa.frozen? ⟨lb, i, none⟩ = false := free_at hblk
       have HA := Lib.hid (And.intro own1 (And.intro kw (And.intro hblk (And.intro hp hat))))
       clear own1 gr1 hat hlt kg kw hblk hp c1))
  go_ret
  obtain ⟨own1, kw, hblk, hp, hat⟩ := HA.out
  have hsc : segCells segs ++ [I k, I num] = segCells (segs ++ [(k, num)]) := by simp [segCells]
  rw [hsc] at own1
  have kfin : Kept [lb] wa (wa.setCell ⟨lb, 1, none⟩ (.slice (some ⟨g, 0, none⟩) (segs.length + 1) cap)) := (Kept.refl _ _).setCell (.inl (by simp)) _
  refine ⟨rfl, .slice (some ⟨g, 0, none⟩) (segs.length + 1) cap, ?_, ⟨heap_setCell_at hblk 1 _, by rw [List.length_append]; exact own_kept own1 kfin (fun q hq hm => by have := (own_lt own1 q hq).1; simp at hm; omega), hp.kept kfin (by have := H4.out.1.n1; simp; omega) (by have := H4.out.1.n2; simp; omega) (by have := H4.out.1.n3; simp; omega) (by have := H4.out.1.n4; simp; omega), H4.out.1.n1, H4.out.1.n2, H4.out.1.n3, H4.out.1.n4⟩, ?_⟩
  · intro q hq
    have hgq : g = q := by simpa [Value.ownBlock] using hq
    subst hgq
    rcases hat with hat | hat
    · exact .inl hat
    · right
      rw [hat, World.size_alloc]
      have := H4.out.2.size
      omega
  · exact H4.out.2.trans' (kw.trans' (LgT.sub1 kfin))
end Go.Proofs.YtncdfaocemfgfaaGreatDoor
