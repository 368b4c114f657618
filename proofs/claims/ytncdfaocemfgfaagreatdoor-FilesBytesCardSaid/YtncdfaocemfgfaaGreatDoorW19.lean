/- Walks and lemmas on the program of this seat, used by its statements; each theorem bears its own conditions. -/
import Derived.Test.YtncdfaocemfgfaaGreatDoorW18
import Derived.Handy
import Derived.OwnWalk
import Derived.Deep.AppendLies
import Derived.IntWalk
import Derived.Deep.CutRange
import Derived.Deep.RegionHeld3
import Derived.Deep.RegionLaw
namespace Go.Proofs.YtncdfaocemfgfaaGreatDoor
open Go.RowKit
set_option linter.unusedVariables false
set_option linter.unusedSimpArgs false
set_option linter.unusedSectionVars false
open Go.RowKit
set_option linter.unusedVariables false
set_option linter.unusedSimpArgs false
set_option maxHeartbeats 8000000
set_option maxRecDepth 100000
/-- What a call of the log's own leaves: the flash, and whether the power went. -/
def LcPost (r : Int) (lb pb fb bb cb fs n : Nat) (v : Value) (segs : List Sg) (g : Fl) (d : Bool) (w : World) (e : Ending) (w' : World) : Prop :=
  e = .returned (I r) ∧ LgAt w' lb pb fb bb cb fs n v segs g d ∧ Kept (LgT lb fb bb cb v) w w'
theorem lclean_keep (w : World) (lb pb fb bb cb fs n : Nat) (v : Value) (segs : List Sg) (f : Fl) (h : LgAt w lb pb fb bb cb fs n v segs f false) (hd : f.dead = false) (k : Nat) (hk : k < n) (hc : allB (blockOf f.bs (fs + k)) = true) :
    Calls Tryz.prog 149 #[Ptr lb, I k] w (LcPost 0 lb pb fb bb cb fs n v segs f false w) :=
  (lclean_any w lb pb fb bb cb fs n v segs f h hd k hk hc).mono fun e w' ⟨a, b, c⟩ => ⟨a, b, LgT.sub1 c⟩
theorem lclean_erase (r : Int) (g : Fl) (w : World) (lb pb fb bb cb fs n : Nat) (v : Value) (segs : List Sg) (f : Fl) (h : LgAt w lb pb fb bb cb fs n v segs f false) (hd : f.dead = false) (k : Nat) (hk : k < n) (hc : allB (blockOf f.bs (fs + k)) = false)
    (hcall : ∀ W, PtAt W pb fb bb cb fs n f → Calls Tryz.prog 179 #[Ptr pb, I k] W (PtPost (I r) pb fb bb cb fs n W g)) :
    Calls Tryz.prog 149 #[Ptr lb, I k] w (LcPost r lb pb fb bb cb fs n v segs g (r == 2) w) := by
  obtain ⟨c0, c1, c2⟩ := h.cells
  have hb := h.pt.bound.1
  have hc1 := clean_any w pb fb bb cb fs n f h.pt hd (k * 512) 512 (by omega) (by omega)
  rw [show ((512 : Nat) : Int) = 512 from rfl] at hc1
  have HC := Lib.hid hc1
  have he : (f.bs.drop (512 * fs + k * 512)).take 512 = blockOf f.bs (fs + k) := by unfold blockOf; congr 2; omega
  rw [he, hc] at HC
  have H := Lib.hid h
  have HE := Lib.hid hcall
  have hkI : (k : Int) ≤ 256 := by omega
  have hkm : (k : Int) * 512 = (k * 512 : Nat) := by omega
  have hkb : ((k * 512 : Nat) : Int) ≤ 131072 := by omega
  have hkb0 : (0 : Int) ≤ ((k * 512 : Nat) : Int) := by omega
  obtain ⟨N, hN⟩ : ∃ N : Nat, k * 512 = N := ⟨_, rfl⟩
  rw [hN] at HC hkm hkb hkb0
  clear h hd hk hc he hb hc1 hN hcall
  go_enter Tryz.func149, Tryz.ntmps149
  go_wp2_with (fail)
  refine HC.out.mono ?_
  rintro e w1 ⟨rfl, rfl⟩
  go_wp2_with (fail)
  refine (HE.out _ H.out.pt).mono ?_
  rintro e w2 ⟨rfl, h2, k2⟩
  have h3 := H.out.turned k2 h2
  go_wp2_with (fail)
  refine (ltold_any w2 lb pb fb bb cb fs n v segs g false h3 r).mono ?_
  rintro e w3 ⟨rfl, h4, k4⟩
  go_wp2_with (fail)
  go_ret
  exact ⟨rfl, h4, (LgT.sub3 k2).trans' (LgT.sub1 k4)⟩
set_option maxHeartbeats 4000000 in
theorem makes_dead1 (w : World) (lb pb fb bb cb fs n : Nat) (v : Value) (segs : List Sg) (k num : Nat) (f0 : Fl) (hkb : k ≤ 256) (hnum : num < 256 ^ 6) 
    (HC : Calls Tryz.prog 149 #[Ptr lb, I k] w (LcPost 2 lb pb fb bb cb fs n v segs f0 true w)) :
    Calls Tryz.prog 150 #[Ptr lb, I k, I num] w (LcPost 2 lb pb fb bb cb fs n v segs f0 true w) := by
  replace HC := Lib.hid HC
  go_enter Tryz.func150, Tryz.ntmps150
  go_wp2_with (fail)
  refine HC.out.mono ?_
  rintro e w1 ⟨rfl, h1, k1⟩
  go_wp2_with (fail)
  go_ret
  exact ⟨rfl, h1, k1⟩
set_option maxHeartbeats 4000000 in
theorem makes_dead2 (w : World) (lb pb fb bb cb fs n : Nat) (v : Value) (segs : List Sg) (k num : Nat) (f0 f1 : Fl) (hkb : k ≤ 256) (hnum : num < 256 ^ 6) 
    (HC : Calls Tryz.prog 149 #[Ptr lb, I k] w (LcPost 0 lb pb fb bb cb fs n v segs f0 false w))
    (HW1 : ∀ W, PtAt W pb fb bb cb fs n f0 → Calls Tryz.prog 180 #[Ptr pb, I (k * 512 : Nat), S (83 :: putN 6 num)] W (PtPost (I 2) pb fb bb cb fs n W f1)) :
    Calls Tryz.prog 150 #[Ptr lb, I k, I num] w (LcPost 2 lb pb fb bb cb fs n v segs f1 true w) := by
  replace HC := Lib.hid HC
  have HBG := Lib.hid (fun W => begin_any W num hnum)
  replace HW1 := Lib.hid HW1
  have hkI : (k : Int) ≤ 256 := by omega
  obtain ⟨N, hN⟩ : ∃ N : Nat, k * 512 = N := ⟨_, rfl⟩
  obtain ⟨M, hM⟩ : ∃ M : Nat, N + 7 = M := ⟨_, rfl⟩
  have hN1 : (k : Int) * 512 = N := by omega
  have hN2 : (N : Int) ≤ 131072 := by omega
  have hM1 : (N : Int) + 7 = M := by omega
  rw [hN] at HW1
  obtain ⟨bg, hbg⟩ : ∃ bg, 83 :: putN 6 num = bg := ⟨_, rfl⟩
  rw [hbg] at HBG HW1
  clear hkb hnum hbg hN hM
  go_enter Tryz.func150, Tryz.ntmps150
  go_wp2_with (fail)
  refine HC.out.mono ?_
  rintro e w1 ⟨rfl, h1, k1⟩
  have H1 := Lib.hid (And.intro h1 k1)
  obtain ⟨c0, c1, c2⟩ := h1.cells
  clear h1 k1
  have hm1 : IntKind.i64.wrap ((k : Int) * 512) = N := by rw [IntKind.wrap_i64]; omega
  have hm2 : IntKind.i64.wrap (N : Int) = N := by rw [IntKind.wrap_i64]; omega
  go_upto_region 4 with (fail)
  go_cut [8] from 16 to 26 (fun v8 wx => v8 = I 2 ∧ LgAt wx lb pb fb bb cb fs n v segs f1 true ∧ Kept (LgT lb fb bb cb v) w1 wx)
  case first =>
    go_region_with (first
      | (go_at_call 181; (with_reducible refine (HBG.out _).mono ?_); rintro e w2 ⟨rfl, k2⟩; have e0 := (H1.out.1.same ((Kept.refl [] w1).drew.trans' k2)).cells.1)
      | (go_at_call 180; (with_reducible refine (HW1.out _ (H1.out.1.same ((Kept.refl [] w1).drew.trans' k2)).pt).mono ?_); rintro e w3 ⟨rfl, h3, k3⟩)
      | (go_at_call 178; (with_reducible refine (ltold_any _ lb pb fb bb cb fs n v segs f1 false ((H1.out.1.same ((Kept.refl [] w1).drew.trans' k2)).turned k3 h3) 2).mono ?_); rintro e w4 ⟨rfl, h4, k4⟩))
    all_goals
      go_wp2
      go_meet
      exact ⟨rfl, h4, (LgT.sub0 ((Kept.refl [] w1).drew.trans' k2)).trans' ((LgT.sub3 k3).trans' (LgT.sub1 k4))⟩
  case rest =>
  obtain ⟨rfl, h2, k2⟩ := hcut
  have H2 := Lib.hid (And.intro h2 (H1.out.2.trans' k2))
  clear h2 k2 H1 c0 c1 c2
  go_wp2_with (fail)
  go_ret
  exact ⟨rfl, H2.out.1, H2.out.2⟩
set_option maxHeartbeats 4000000 in
theorem makes_dead3 (w : World) (lb pb fb bb cb fs n : Nat) (v : Value) (segs : List Sg) (k num : Nat) (f0 f1 f2 : Fl) (hkb : k ≤ 256) (hnum : num < 256 ^ 6) 
    (HC : Calls Tryz.prog 149 #[Ptr lb, I k] w (LcPost 0 lb pb fb bb cb fs n v segs f0 false w))
    (HW1 : ∀ W, PtAt W pb fb bb cb fs n f0 → Calls Tryz.prog 180 #[Ptr pb, I (k * 512 : Nat), S (83 :: putN 6 num)] W (PtPost (I 0) pb fb bb cb fs n W f1))
    (HW2 : ∀ W, PtAt W pb fb bb cb fs n f1 → Calls Tryz.prog 180 #[Ptr pb, I (k * 512 + 7 : Nat), S [0]] W (PtPost (I 2) pb fb bb cb fs n W f2)) :
    Calls Tryz.prog 150 #[Ptr lb, I k, I num] w (LcPost 2 lb pb fb bb cb fs n v segs f2 true w) := by
  replace HC := Lib.hid HC
  have HBG := Lib.hid (fun W => begin_any W num hnum)
  replace HW1 := Lib.hid HW1
  replace HW2 := Lib.hid HW2
  have hkI : (k : Int) ≤ 256 := by omega
  obtain ⟨N, hN⟩ : ∃ N : Nat, k * 512 = N := ⟨_, rfl⟩
  obtain ⟨M, hM⟩ : ∃ M : Nat, N + 7 = M := ⟨_, rfl⟩
  have hN1 : (k : Int) * 512 = N := by omega
  have hN2 : (N : Int) ≤ 131072 := by omega
  have hM1 : (N : Int) + 7 = M := by omega
  rw [hN] at HW1
  rw [hN, hM] at HW2
  obtain ⟨bg, hbg⟩ : ∃ bg, 83 :: putN 6 num = bg := ⟨_, rfl⟩
  rw [hbg] at HBG HW1
  clear hkb hnum hbg hN hM
  go_enter Tryz.func150, Tryz.ntmps150
  go_wp2_with (fail)
  refine HC.out.mono ?_
  rintro e w1 ⟨rfl, h1, k1⟩
  have H1 := Lib.hid (And.intro h1 k1)
  obtain ⟨c0, c1, c2⟩ := h1.cells
  clear h1 k1
  have hm1 : IntKind.i64.wrap ((k : Int) * 512) = N := by rw [IntKind.wrap_i64]; omega
  have hm2 : IntKind.i64.wrap (N : Int) = N := by rw [IntKind.wrap_i64]; omega
  go_upto_region 4 with (fail)
  go_cut [8] from 16 to 26 (fun v8 wx => v8 = I 0 ∧ LgAt wx lb pb fb bb cb fs n v segs f1 false ∧ Kept (LgT lb fb bb cb v) w1 wx)
  case first =>
    go_region_with (first
      | (go_at_call 181; (with_reducible refine (HBG.out _).mono ?_); rintro e w2 ⟨rfl, k2⟩; have e0 := (H1.out.1.same ((Kept.refl [] w1).drew.trans' k2)).cells.1)
      | (go_at_call 180; (with_reducible refine (HW1.out _ (H1.out.1.same ((Kept.refl [] w1).drew.trans' k2)).pt).mono ?_); rintro e w3 ⟨rfl, h3, k3⟩)
      | (go_at_call 178; (with_reducible refine (ltold_any _ lb pb fb bb cb fs n v segs f1 false ((H1.out.1.same ((Kept.refl [] w1).drew.trans' k2)).turned k3 h3) 0).mono ?_); rintro e w4 ⟨rfl, h4, k4⟩))
    all_goals
      go_wp2
      go_meet
      exact ⟨rfl, h4, (LgT.sub0 ((Kept.refl [] w1).drew.trans' k2)).trans' ((LgT.sub3 k3).trans' (LgT.sub1 k4))⟩
  case rest =>
  obtain ⟨rfl, h2, k2⟩ := hcut
  have H2 := Lib.hid (And.intro h2 (H1.out.2.trans' k2))
  clear H1 c0 c1 c2
  obtain ⟨c0, c1, c2⟩ := h2.cells
  clear h2 k2
  go_wp2_with (fail)
  refine (HW2.out _ H2.out.1.pt).mono ?_
  rintro e w3 ⟨rfl, h3, k3⟩
  have H3 := Lib.hid (And.intro (H2.out.1.turned k3 h3) (H2.out.2.trans' (LgT.sub3 k3)))
  clear h3 k3 H2 c0 c1 c2
  go_wp2_with (fail)
  refine (ltold_any _ lb pb fb bb cb fs n v segs _ false H3.out.1 2).mono ?_
  rintro e w4 ⟨rfl, h4, k4⟩
  have H4 := Lib.hid (And.intro h4 (H3.out.2.trans' (LgT.sub1 k4)))
  clear h4 k4 H3
  go_wp2_with (fail)
  go_ret
  exact ⟨rfl, H4.out.1, H4.out.2⟩
set_option maxHeartbeats 4000000 in
theorem makes_of (w : World) (lb pb fb bb cb fs n : Nat) (v : Value) (segs : List Sg) (k num : Nat) (f0 f1 f2 : Fl) (hkb : k ≤ 256) (hnum : num < 256 ^ 6) (hs : segs.length ≤ 1000)
    (HC : Calls Tryz.prog 149 #[Ptr lb, I k] w (LcPost 0 lb pb fb bb cb fs n v segs f0 false w))
    (HW1 : ∀ W, PtAt W pb fb bb cb fs n f0 → Calls Tryz.prog 180 #[Ptr pb, I (k * 512 : Nat), S (83 :: putN 6 num)] W (PtPost (I 0) pb fb bb cb fs n W f1))
    (HW2 : ∀ W, PtAt W pb fb bb cb fs n f1 → Calls Tryz.prog 180 #[Ptr pb, I (k * 512 + 7 : Nat), S [0]] W (PtPost (I 0) pb fb bb cb fs n W f2)) :
    Calls Tryz.prog 150 #[Ptr lb, I k, I num] w (LgPost (I 0) lb pb fb bb cb fs n v w (segs ++ [(k, num)]) f2 false) := by
  replace HC := Lib.hid HC
  have HBG := Lib.hid (fun W => begin_any W num hnum)
  replace HW1 := Lib.hid HW1
  replace HW2 := Lib.hid HW2
  have hkI : (k : Int) ≤ 256 := by omega
  obtain ⟨N, hN⟩ : ∃ N : Nat, k * 512 = N := ⟨_, rfl⟩
  obtain ⟨M, hM⟩ : ∃ M : Nat, N + 7 = M := ⟨_, rfl⟩
  have hN1 : (k : Int) * 512 = N := by omega
  have hN2 : (N : Int) ≤ 131072 := by omega
  have hM1 : (N : Int) + 7 = M := by omega
  rw [hN] at HW1
  rw [hN, hM] at HW2
  obtain ⟨bg, hbg⟩ : ∃ bg, 83 :: putN 6 num = bg := ⟨_, rfl⟩
  rw [hbg] at HBG HW1
  obtain ⟨i0, hi, hz0, hz1, hz2⟩ := info_parts seg_info
  have HI := Lib.hid (And.intro hi (And.intro hz0 (And.intro hz1 hz2)))
  have HS := Lib.hid hs
  clear hkb hnum hbg hN hM hi hz0 hz1 hz2 hs
  go_enter Tryz.func150, Tryz.ntmps150
  go_wp2_with (fail)
  refine HC.out.mono ?_
  rintro e w1 ⟨rfl, h1, k1⟩
  have H1 := Lib.hid (And.intro h1 k1)
  obtain ⟨c0, c1, c2⟩ := h1.cells
  clear h1 k1
  have hm1 : IntKind.i64.wrap ((k : Int) * 512) = N := by rw [IntKind.wrap_i64]; omega
  have hm2 : IntKind.i64.wrap (N : Int) = N := by rw [IntKind.wrap_i64]; omega
  go_upto_region 4 with (fail)
  go_cut [8] from 16 to 26 (fun v8 wx => v8 = I 0 ∧ LgAt wx lb pb fb bb cb fs n v segs f1 false ∧ Kept (LgT lb fb bb cb v) w1 wx)
  case first =>
    go_region_with (first
      | (go_at_call 181; (with_reducible refine (HBG.out _).mono ?_); rintro e w2 ⟨rfl, k2⟩; have e0 := (H1.out.1.same ((Kept.refl [] w1).drew.trans' k2)).cells.1)
      | (go_at_call 180; (with_reducible refine (HW1.out _ (H1.out.1.same ((Kept.refl [] w1).drew.trans' k2)).pt).mono ?_); rintro e w3 ⟨rfl, h3, k3⟩)
      | (go_at_call 178; (with_reducible refine (ltold_any _ lb pb fb bb cb fs n v segs f1 false ((H1.out.1.same ((Kept.refl [] w1).drew.trans' k2)).turned k3 h3) 0).mono ?_); rintro e w4 ⟨rfl, h4, k4⟩))
    all_goals
      go_wp2
      go_meet
      exact ⟨rfl, h4, (LgT.sub0 ((Kept.refl [] w1).drew.trans' k2)).trans' ((LgT.sub3 k3).trans' (LgT.sub1 k4))⟩
  case rest =>
  obtain ⟨rfl, h2, k2⟩ := hcut
  have H2 := Lib.hid (And.intro h2 (H1.out.2.trans' k2))
  clear H1 c0 c1 c2
  obtain ⟨c0, c1, c2⟩ := h2.cells
  clear h2 k2
  go_wp2_with (fail)
  refine (HW2.out _ H2.out.1.pt).mono ?_
  rintro e w3 ⟨rfl, h3, k3⟩
  have H3 := Lib.hid (And.intro (H2.out.1.turned k3 h3) (H2.out.2.trans' (LgT.sub3 k3)))
  clear h3 k3 H2 c0 c1 c2
  go_wp2_with (fail)
  refine (ltold_any _ lb pb fb bb cb fs n v segs _ false H3.out.1 0).mono ?_
  rintro e w4 ⟨rfl, h4, k4⟩
  have k5 := H3.out.2.trans' (LgT.sub1 k4)
  obtain ⟨p, c, rfl⟩ := own_form h4.own
  obtain ⟨c0, c1, c2⟩ := h4.cells
  have H4 := Lib.hid (And.intro h4 k5)
  clear h4 k4 k5 H3
  obtain ⟨hi, hz0, hz1, hz2⟩ := HI.out
  go_wp2_with (first
    | (at_builtin
       refine wpList_append_lies _ rfl (.tmp 47) (.tmp 51) _ rfl (lb + 1) 214 i0 (.agg #[.int .i64 0, .int .i64 0]) 2 16 Tryz.underlying204 hi hz0 hz1 hz2 rfl (by decide) (.slice p segs.length c) segs.length (segCells segs) rfl (own_kept H4.out.1.own ((Kept.refl [] w4).alloc _) (by simp)) ⟨w4.heap.size, 0, none⟩ 1 1 [I k, I num] rfl rfl (World.news_of_block (heap_new w4 _)) (by intro u hu; simp at hu; rcases hu with rfl | rfl <;> rfl) (by omega) (by have := HS.out; unfold maxLen; omega) (by have := HS.out; omega) (by rw [World.size_alloc]; have := H4.out.1.lt; omega) _ rfl ?_
       intro g cap wa own1 gr1 hat hlt
       have kg := kept_grown gr1
       have kw : Kept (LgT lb fb bb cb (.slice p segs.length c)) w4 wa := (LgT.sub0 ((Kept.refl [] w4).alloc _)).trans' (kg.mono (by intro x hx; simp [LgT] at hx ⊢; simp [hx]))
       have hblk : wa.heap[lb]? = some (.cells #[Ptr pb, .slice p segs.length c, .bool false] 206 (0, 0)) := kg.at (((Kept.refl [] w4).alloc _).at H4.out.1.blk (by simp)) (by intro hm; have := (own_lt H4.out.1.own lb (by simpa using hm)).1; omega)
       have hp : PtAt wa pb fb bb cb fs n (f2) := (H4.out.1.pt.same ((Kept.refl [] w4).alloc _)).kept kg (by intro hm; have := (own_lt H4.out.1.own pb (by simpa using hm)).1; have := H4.out.1.n1; omega) (by intro hm; have := (own_lt H4.out.1.own fb (by simpa using hm)).1; have := H4.out.1.n2; omega) (by intro hm; have := (own_lt H4.out.1.own bb (by simpa using hm)).1; have := H4.out.1.n3; omega) (by intro hm; have := (own_lt H4.out.1.own cb (by simpa using hm)).1; have := H4.out.1.n4; omega)
       have d1 : wa.cell? ⟨lb, 1, none⟩ = some (.slice p segs.length c) := by rw [cell_at hblk]; rfl
       have df : ∀ i, wa.frozen? ⟨lb, i, none⟩ = false := free_at hblk
       have HA := Lib.hid (And.intro own1 (And.intro kw (And.intro hblk (And.intro hp hat))))
       clear own1 gr1 hat hlt kg kw hblk hp c1))
  go_ret
  obtain ⟨own1, kw, hblk, hp, hat⟩ := HA.out
  have hsc : segCells segs ++ [I k, I num] = segCells (segs ++ [(k, num)]) := by simp [segCells]
  rw [hsc] at own1
  have kfin : Kept [lb] wa (wa.setCell ⟨lb, 1, none⟩ (.slice (some ⟨g, 0, none⟩) (segs.length + 1) cap)) := (Kept.refl _ _).setCell (.inl (by simp)) _
  refine ⟨rfl, .slice (some ⟨g, 0, none⟩) (segs.length + 1) cap, ?_, ⟨heap_setCell_at hblk 1 _, by rw [List.length_append]; exact own_kept own1 kfin (fun q hq hm => by have := (own_lt own1 q hq).1; simp at hm; omega), hp.kept kfin (by have := H4.out.1.n1; simp; omega) (by have := H4.out.1.n2; simp; omega) (by have := H4.out.1.n3; simp; omega) (by have := H4.out.1.n4; simp; omega), H4.out.1.n1, H4.out.1.n2, H4.out.1.n3, H4.out.1.n4⟩, ?_⟩
  · intro q hq
    have hgq : g = q := by simpa [Value.ownBlock] using hq
    subst hgq
    rcases hat with hat | hat
    · exact .inl hat
    · right
      rw [hat, World.size_alloc]
      have := H4.out.2.size
      omega
  · exact H4.out.2.trans' (kw.trans' (LgT.sub1 kfin))
end Go.Proofs.YtncdfaocemfgfaaGreatDoor
