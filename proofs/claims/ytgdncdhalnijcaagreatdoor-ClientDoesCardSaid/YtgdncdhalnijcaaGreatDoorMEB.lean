/- Walks and lemmas on the program of this seat, used by its statements; each theorem bears its own conditions. -/
import Derived.Test.YtgdncdhalnijcaaGreatDoorMEA
import Derived.Test.YtgdncdhalnijcaaGreatDoorMRE
import Derived.Test.YtgdncdhalnijcaaGreatDoorMCX
import Derived.Handy
import Derived.Recover
import Derived.IntWalk
import Derived.Deep.CutRange
import Derived.OwnWalk
import Derived.Deep.AppendLies
import Derived.Deep.RegionLaw
import Derived.Deep.RegionHeld3
import Derived.StillTailTactics
import Derived.RegionTactic
import Derived.ChangeAlike
namespace Go.Proofs.YtgdncdhalnijcaaGreatDoor
open Go.RowKit
set_option linter.unusedVariables false
set_option linter.unusedSimpArgs false
section
namespace BD
theorem small_says : SmallSays := fun s w hs => (small_any s w hs).mono fun e w' h => ⟨h.1, ⟨h.2.os, h.2.tape, h.2.output, h.2.size, h.2.block⟩⟩
end BD
namespace CL
set_option maxHeartbeats 8000000
set_option maxRecDepth 100000
/-! ### New, shaped -/
def y0 : Mx := ⟨[], false, 0, .slice none 0 0, .slice none 0 0, 0, 0⟩
def MNPost (w : World) (ok : Bool) (c : Cl) (e : Ending) (w' : World) : Prop :=
  (ok = true ∧ ∃ b, w.heap.size ≤ b ∧ e = .returned (.tuple #[Ptr b, I 0]) ∧ MAt w' b c y0 ∧ Kept [] w w') ∨ (ok = false ∧ e = .returned (.tuple #[.pointer none, I 190]) ∧ Kept [] w w')
set_option maxHeartbeats 4000000 in
theorem rnew_any (ho ta : List UInt8) (fr li tm tr wt : Int) (w : World) (h1 : ho.length ≤ 9223372036854775807) (h2 : ta.length ≤ 9223372036854775807) (hf1 : -9223372036854775808 ≤ fr) (hf2 : fr ≤ 9223372036854775807) :
    Calls Tryz.prog 19 #[.agg #[S ho, S ta, I fr, I li, I tm, I tr, I wt]] w (MNPost w (newOk ho ta fr li tm tr wt) (newCl ho ta fr li tm tr wt)) := by
  obtain ⟨rq, q, hq⟩ : ∃ rq q, reqF ho ta fr = (rq, q) := ⟨_, _, rfl⟩
  have HRQ := Lib.hid (fun W (k : Kept [] w W) => rrequest_any ho ta fr W hf1 hf2 h1 h2 (rq, q) hq)
  have HOK : Hid (newOk ho ta fr li tm tr wt = decide (q = 0 ∧ fr ≤ li ∧ li ≤ 1048576 ∧ 1 ≤ tm ∧ tm ≤ 1000 ∧ 1 ≤ wt ∧ wt ≤ 1000 ∧ 1 ≤ tr ∧ tr ≤ 16)) := Lib.hid (by unfold newOk; rw [hq])
  clear hq h1 h2
  have k0 : Kept [] w (w.alloc (.cells #[S ho, S ta, I fr, I li, I tm, I tr, I wt] 23)) := (Kept.refl _ _).alloc _
  have hbx := heap_new w (.cells #[S ho, S ta, I fr, I li, I tm, I tr, I wt] 23)
  have K0 := Lib.hid k0
  have HBX := Lib.hid hbx
  clear k0 hbx
  go_enter Tryz.func19, Tryz.ntmps19
  go_wp2_with (fail)
  refine (HRQ.out _ K0.out).mono ?_
  rintro e w1 ⟨rfl, k1⟩
  have hb1 := k1.at HBX.out (by simp)
  have K1 := Lib.hid (K0.out.trans' k1)
  have hg : w.heap.size < w1.heap.size := by have := lt_of_block hb1; exact this
  generalize w.heap.size = g at hb1 hg ⊢
  have y0 : w1.cell? ⟨g, 0, none⟩ = some (S ho) := by rw [cell_at hb1]; rfl
  have y1 : w1.cell? ⟨g, 1, none⟩ = some (S ta) := by rw [cell_at hb1]; rfl
  have y2 : w1.cell? ⟨g, 2, none⟩ = some (I fr) := by rw [cell_at hb1]; rfl
  have y3 : w1.cell? ⟨g, 3, none⟩ = some (I li) := by rw [cell_at hb1]; rfl
  have y4 : w1.cell? ⟨g, 4, none⟩ = some (I tm) := by rw [cell_at hb1]; rfl
  have y5 : w1.cell? ⟨g, 5, none⟩ = some (I tr) := by rw [cell_at hb1]; rfl
  have y6 : w1.cell? ⟨g, 6, none⟩ = some (I wt) := by rw [cell_at hb1]; rfl
  clear k1 hb1
  by_cases a1 : q = 0
  case neg =>
    have hY : Hid (newOk ho ta fr li tm tr wt = false) := Lib.hid (by rw [HOK.out]; exact decide_eq_false (fun h => a1 h.1))
    have b1 : ((q : Int) != 0) = true := by simp; omega
    clear a1
    go_wp2_with (fail)
    go_ret2
    exact .inr ⟨hY.out, rfl, K1.out⟩
  case pos =>
  by_cases a2 : fr ≤ li
  case neg =>
    have hY : Hid (newOk ho ta fr li tm tr wt = false) := Lib.hid (by rw [HOK.out]; exact decide_eq_false (fun h => a2 h.2.1))
    have b1 : ((q : Int) != 0) = false := by simp; omega
    have x1 : li < fr := by omega
    clear a1
    go_wp2_with (fail)
    go_ret2
    exact .inr ⟨hY.out, rfl, K1.out⟩
  case pos =>
  by_cases a3 : li ≤ 1048576
  case neg =>
    have hY : Hid (newOk ho ta fr li tm tr wt = false) := Lib.hid (by rw [HOK.out]; exact decide_eq_false (fun h => a3 h.2.2.1))
    have b1 : ((q : Int) != 0) = false := by simp; omega
    have d0 : decide (li < fr) = false := decide_eq_false (by omega)
    have x2 : 1048576 < li := by omega
    clear a1
    go_wp2_with (fail)
    go_ret2
    exact .inr ⟨hY.out, rfl, K1.out⟩
  case pos =>
  by_cases a4 : 1 ≤ tm
  case neg =>
    have hY : Hid (newOk ho ta fr li tm tr wt = false) := Lib.hid (by rw [HOK.out]; exact decide_eq_false (fun h => a4 h.2.2.2.1))
    have b1 : ((q : Int) != 0) = false := by simp; omega
    have d0 : decide (li < fr) = false := decide_eq_false (by omega)
    have d1 : decide (1048576 < li) = false := decide_eq_false (by omega)
    have x3 : tm < 1 := by omega
    clear a1
    go_wp2_with (fail)
    go_ret2
    exact .inr ⟨hY.out, rfl, K1.out⟩
  case pos =>
  by_cases a5 : tm ≤ 1000
  case neg =>
    have hY : Hid (newOk ho ta fr li tm tr wt = false) := Lib.hid (by rw [HOK.out]; exact decide_eq_false (fun h => a5 h.2.2.2.2.1))
    have b1 : ((q : Int) != 0) = false := by simp; omega
    have d0 : decide (li < fr) = false := decide_eq_false (by omega)
    have d1 : decide (1048576 < li) = false := decide_eq_false (by omega)
    have d2 : decide (tm < 1) = false := decide_eq_false (by omega)
    have x4 : 1000 < tm := by omega
    clear a1
    go_wp2_with (fail)
    go_ret2
    exact .inr ⟨hY.out, rfl, K1.out⟩
  case pos =>
  by_cases a6 : 1 ≤ wt
  case neg =>
    have hY : Hid (newOk ho ta fr li tm tr wt = false) := Lib.hid (by rw [HOK.out]; exact decide_eq_false (fun h => a6 h.2.2.2.2.2.1))
    have b1 : ((q : Int) != 0) = false := by simp; omega
    have d0 : decide (li < fr) = false := decide_eq_false (by omega)
    have d1 : decide (1048576 < li) = false := decide_eq_false (by omega)
    have d2 : decide (tm < 1) = false := decide_eq_false (by omega)
    have d3 : decide (1000 < tm) = false := decide_eq_false (by omega)
    have x5 : wt < 1 := by omega
    clear a1
    go_wp2_with (fail)
    go_ret2
    exact .inr ⟨hY.out, rfl, K1.out⟩
  case pos =>
  by_cases a7 : wt ≤ 1000
  case neg =>
    have hY : Hid (newOk ho ta fr li tm tr wt = false) := Lib.hid (by rw [HOK.out]; exact decide_eq_false (fun h => a7 h.2.2.2.2.2.2.1))
    have b1 : ((q : Int) != 0) = false := by simp; omega
    have d0 : decide (li < fr) = false := decide_eq_false (by omega)
    have d1 : decide (1048576 < li) = false := decide_eq_false (by omega)
    have d2 : decide (tm < 1) = false := decide_eq_false (by omega)
    have d3 : decide (1000 < tm) = false := decide_eq_false (by omega)
    have d4 : decide (wt < 1) = false := decide_eq_false (by omega)
    have x6 : 1000 < wt := by omega
    clear a1
    go_wp2_with (fail)
    go_ret2
    exact .inr ⟨hY.out, rfl, K1.out⟩
  case pos =>
  by_cases a8 : 1 ≤ tr
  case neg =>
    have hY : Hid (newOk ho ta fr li tm tr wt = false) := Lib.hid (by rw [HOK.out]; exact decide_eq_false (fun h => a8 h.2.2.2.2.2.2.2.1))
    have b1 : ((q : Int) != 0) = false := by simp; omega
    have d0 : decide (li < fr) = false := decide_eq_false (by omega)
    have d1 : decide (1048576 < li) = false := decide_eq_false (by omega)
    have d2 : decide (tm < 1) = false := decide_eq_false (by omega)
    have d3 : decide (1000 < tm) = false := decide_eq_false (by omega)
    have d4 : decide (wt < 1) = false := decide_eq_false (by omega)
    have d5 : decide (1000 < wt) = false := decide_eq_false (by omega)
    have x7 : tr < 1 := by omega
    clear a1
    go_wp2_with (fail)
    go_ret2
    exact .inr ⟨hY.out, rfl, K1.out⟩
  case pos =>
  by_cases a9 : tr ≤ 16
  case neg =>
    have hY : Hid (newOk ho ta fr li tm tr wt = false) := Lib.hid (by rw [HOK.out]; exact decide_eq_false (fun h => a9 h.2.2.2.2.2.2.2.2))
    have b1 : ((q : Int) != 0) = false := by simp; omega
    have d0 : decide (li < fr) = false := decide_eq_false (by omega)
    have d1 : decide (1048576 < li) = false := decide_eq_false (by omega)
    have d2 : decide (tm < 1) = false := decide_eq_false (by omega)
    have d3 : decide (1000 < tm) = false := decide_eq_false (by omega)
    have d4 : decide (wt < 1) = false := decide_eq_false (by omega)
    have d5 : decide (1000 < wt) = false := decide_eq_false (by omega)
    have d6 : decide (tr < 1) = false := decide_eq_false (by omega)
    have x8 : 16 < tr := by omega
    clear a1
    go_wp2_with (fail)
    go_ret2
    exact .inr ⟨hY.out, rfl, K1.out⟩
  case pos =>
  have hY : Hid (newOk ho ta fr li tm tr wt = true) := Lib.hid (by rw [HOK.out]; exact decide_eq_true ⟨a1, a2, a3, a4, a5, a6, a7, a8, a9⟩)
  have b1 : ((q : Int) != 0) = false := by simp; omega
  have d0 : decide (li < fr) = false := decide_eq_false (by omega)
  have d1 : decide (1048576 < li) = false := decide_eq_false (by omega)
  have d2 : decide (tm < 1) = false := decide_eq_false (by omega)
  have d3 : decide (1000 < tm) = false := decide_eq_false (by omega)
  have d4 : decide (wt < 1) = false := decide_eq_false (by omega)
  have d5 : decide (1000 < wt) = false := decide_eq_false (by omega)
  have d6 : decide (tr < 1) = false := decide_eq_false (by omega)
  have d7 : decide (16 < tr) = false := decide_eq_false (by omega)
  clear a1
  go_wp2_with (fail)
  go_ret2
  exact .inl ⟨hY.out, w1.heap.size, K1.out.size, rfl, ⟨heap_new w1 _⟩, K1.out.alloc _⟩
theorem shaped_any (k : Int) (w : World) : Calls Tryz.prog 42 #[I k] w fun e w' => e = .returned (I (formedF k)) ∧ w' = w := by
  by_cases hk : k = 181
  · have hb : (k == 181) = true := by simpa using hk
    have HF : Hid (formedF k = 193) := Lib.hid (by unfold formedF; rw [if_pos hk])
    clear hk
    go_enter Tryz.func42, Tryz.ntmps42
    go_wp2_with (fail)
    go_ret
    exact ⟨by rw [HF.out]; rfl, rfl⟩
  · have hb : (k == 181) = false := by simpa using hk
    have HF : Hid (formedF k = 192) := Lib.hid (by unfold formedF; rw [if_neg hk])
    clear hk
    go_enter Tryz.func42, Tryz.ntmps42
    go_wp2_with (fail)
    go_ret
    exact ⟨by rw [HF.out]; rfl, rfl⟩
end CL
end
section
namespace CL
set_option maxHeartbeats 8000000
set_option maxRecDepth 100000
/-! ### heads -/
theorem MAt.of {w : World} {b : Nat} {c c' : Cl} {y y' : Mx} (h : MAt w b c y) (e : marr c' y' = marr c y) : MAt w b c' y' := ⟨by rw [e]; exact h.blk⟩
theorem MPost.of {v : Value} {b : Nat} {w : World} {c c' : Cl} {y : Mx} {e : Ending} {w' : World} (h : MPost v b w c y e w') (q : marr c' y = marr c y) : MPost v b w c' y e w' := ⟨h.1, h.2.1.of q, h.2.2⟩
theorem kind_size {kd sz : Int} {R : BD.Rd} (h : BD.KindOf kd sz R) : R.size = sz ∧ -1 ≤ sz ∧ sz ≤ 1048576 := by
  rcases h with ⟨_, h2, rfl⟩ | ⟨_, h2, rfl⟩ | ⟨_, h2, h3, rfl⟩ | ⟨_, h2, rfl⟩
  · subst h2; exact ⟨rfl, by decide, by decide⟩
  · subst h2; exact ⟨rfl, by decide, by decide⟩
  · exact ⟨rfl, by omega, h3⟩
  · subst h2; exact ⟨rfl, by decide, by decide⟩
theorem digs_9 {d : List UInt8} (h : Dg d) : 0 ≤ BD.digs d ∧ BD.digs d ≤ 999999999 := by
  have h1 := BD.digs_bd d h.al d.length (Nat.le_refl _)
  rw [List.take_length] at h1
  have hp : (10 ^ d.length : Nat) ≤ 10 ^ 9 := Nat.pow_le_pow_right (by decide) h.le
  have h9 : (10 ^ 9 : Nat) = 1000000000 := by decide
  omega
/-- The document's range and the program's. -/
theorem range_way (s : List UInt8) : ((spanF s).ok = true ∧ rangeF s = ((spanF s).f, (spanF s).t, (spanF s).a, true) ∧ 0 ≤ (spanF s).f ∧ (spanF s).f ≤ (spanF s).t ∧ (spanF s).t < (spanF s).a ∧ (spanF s).a ≤ 999999999) ∨ ((spanF s).ok = false ∧ (rangeF s).2.2.2 = false) := by
  obtain ⟨q1, q2⟩ := range_span s
  by_cases h : (spanF s).ok = true
  · refine .inl ⟨h, q2 h, ?_⟩
    obtain ⟨d1, d2, d3, hf⟩ := span_form h
    have b1 := digs_9 hf.g1
    have b3 := digs_9 hf.g3
    have := hf.le
    have := hf.lt
    rw [hf.span]
    exact ⟨b1.1, hf.le, hf.lt, b3.2⟩
  · have h' : (spanF s).ok = false := by simpa using h
    exact .inr ⟨h', by rw [q1, h']⟩
set_option maxRecDepth 100000 in
set_option maxHeartbeats 40000000 in
theorem rheads_any (b : Nat) (c : Cl) (y : Mx) (h : Hd) (w : World) (H : MAt w b c y) (hd : c.Bd) (hn : StrsAt w y.nv h.ns) (hv : StrsAt w y.vv h.vs) (hst : y.hst = h.st) (hlen : ∀ v ∈ h.vs, v.length ≤ 4611686018427387904) :
    Calls Tryz.prog 40 #[Ptr b] w (MPost (.bool (headsF c h).2) b w (headsF c h).1 y) := by
  obtain ⟨c0, c1, c2, c3, c4, c5, c6, c7, c8, c9, c10, c11, c12, c13, c14, c15, c16, c17, c18, c19, c20, c21, c22, c23, c24, c25⟩ := (H).cells
  have hf := (H).free
  rw [hst] at c19
  have HST := Lib.hid hst
  have HH := Lib.hid H
  have HD := Lib.hid hd
  have HKD := Lib.hid (fun W (k : Kept [] w W) => BD.kind_any BD.small_says h.st y.nv y.vv h.ns h.vs W (toBDS (hn.kept k)) (toBDS (hv.kept k)) (fun s hs => by have := hlen s hs; omega))
  have hkn := BD.kind_new h.st h.ns h.vs
  obtain ⟨v, n, hg⟩ : ∃ v n, getF h.ns h.vs crName = (v, n) := ⟨_, _, rfl⟩
  have hvl := getF_len (ns := h.ns) hlen crName
  rw [hg] at hvl
  have HG : Hid (∀ W, Kept [] w W → Calls Tryz.prog 71 #[.agg #[I h.st, y.nv, y.vv], S crName] W fun e w' => e = .returned (.tuple #[S v, I n]) ∧ Kept [] W w') := Lib.hid fun W k => by
    have := BD.rget_any h.st y.nv y.vv h.ns h.vs crName W (toBDS (hn.kept k)) (toBDS (hv.kept k))
    refine this.mono ?_
    rintro e w' ⟨e1, e2⟩
    exact ⟨by rw [e1]; show Ending.returned (.tuple #[S (BD.getF h.ns h.vs crName).1, I (BD.getF h.ns h.vs crName).2]) = _; rw [show BD.getF h.ns h.vs crName = getF h.ns h.vs crName from rfl, hg], ofBD e2⟩
  have HRG := Lib.hid (fun W => rrange_any v W hvl)
  have HX : Hid (∀ r, heads2 { c with body := some r } r h = if h.st = 206 then (if spanYes { c with body := some r } r (spanF v) n = true then heads3 { c with body := some r, left := (spanF v).t - (spanF v).f + 1 } (spanF v).a else (failsF { c with body := some r } 192, false)) else heads3 { c with body := some r, skip := c.got } r.size) := Lib.hid fun r => by unfold heads2; rw [hg]
  have hnn : (n : Int) ≤ 9223372036854775807 := by
    have := getF_le h.ns h.vs crName
    rw [hg] at this
    obtain ⟨_, _, _, h2, _⟩ := hn
    simp only at this; omega
  clear H hd hn hv hlen hst hvl hg
  go_enter Tryz.func40, Tryz.ntmps40
  have hst3 : h.st = 408 ∨ (h.st ≠ 408 ∧ h.st = 429) ∨ (h.st ≠ 408 ∧ h.st ≠ 429 ∧ 500 ≤ h.st) ∨ (h.st < 500 ∧ h.st ≠ 408 ∧ h.st ≠ 429) := by omega
  rcases hst3 with s1 | ⟨s1, s2⟩ | ⟨s1, s2, s3⟩ | ⟨s3, s1, s2⟩
  · have HY : Hid (headsF c h = (losesF c, false)) := Lib.hid (by unfold headsF; rw [if_pos (.inl s1)])
    have q1 : ((h.st : Int) == 408) = true := by simp; omega
    clear s1
    go_wp2_with (fail)
    refine (rloses_any b c y _ HH.out HD.out).mono ?_
    rintro e w7 ⟨rfl, h7, k7⟩
    go_wp2_with (fail)
    go_ret
    rw [HY.out]
    exact ⟨rfl, h7, k7⟩
  · have HY : Hid (headsF c h = (losesF c, false)) := Lib.hid (by unfold headsF; rw [if_pos (.inr (.inl s2))])
    have q1 : ((h.st : Int) == 408) = false := by simp; omega
    have q2 : ((h.st : Int) == 429) = true := by simp; omega
    clear s1 s2
    go_wp2_with (fail)
    refine (rloses_any b c y _ HH.out HD.out).mono ?_
    rintro e w7 ⟨rfl, h7, k7⟩
    go_wp2_with (fail)
    go_ret
    rw [HY.out]
    exact ⟨rfl, h7, k7⟩
  · have HY : Hid (headsF c h = (losesF c, false)) := Lib.hid (by unfold headsF; rw [if_pos (.inr (.inr s3))])
    have q1 : ((h.st : Int) == 408) = false := by simp; omega
    have q2 : ((h.st : Int) == 429) = false := by simp; omega
    have q3 : (500 : Int) ≤ h.st := by omega
    clear s1 s2 s3
    go_wp2_with (fail)
    refine (rloses_any b c y _ HH.out HD.out).mono ?_
    rintro e w7 ⟨rfl, h7, k7⟩
    go_wp2_with (fail)
    go_ret
    rw [HY.out]
    exact ⟨rfl, h7, k7⟩
  have HX0 : Hid (headsF c h = if h.st ≠ 200 ∧ h.st ≠ 206 then (failsF c 191, false)
      else match BD.newF h.st h.ns h.vs with
        | (some r, _) => heads2 { c with body := some r } r h
        | (none, e) => (failsF c (formedF e), false)) := Lib.hid (by unfold headsF; rw [if_neg (by omega)]; rfl)
  have q1 : ((h.st : Int) == 408) = false := by simp; omega
  have q2 : ((h.st : Int) == 429) = false := by simp; omega
  have q3 : decide ((500 : Int) ≤ h.st) = false := decide_eq_false (by omega)
  clear s1 s2 s3
  by_cases t1 : h.st ≠ 200 ∧ h.st ≠ 206
  · have HY : Hid (headsF c h = (failsF c 191, false)) := Lib.hid (by rw [HX0.out, if_pos t1])
    have p1 : ((h.st : Int) != 200) = true := by simp; omega
    have p2 : ((h.st : Int) != 206) = true := by simp; omega
    clear t1
    go_wp2_with (fail)
    refine (rfails_any b c y 191 _ HH.out).mono ?_
    rintro e w7 ⟨rfl, h7, k7⟩
    go_wp2_with (fail)
    go_ret
    rw [HY.out]
    exact ⟨rfl, h7, k7⟩
  have HX1 : Hid (headsF c h = match BD.newF h.st h.ns h.vs with
        | (some r, _) => heads2 { c with body := some r } r h
        | (none, e) => (failsF c (formedF e), false)) := Lib.hid (by rw [HX0.out, if_neg t1])
  clear HX0
  have hcases : (h.st = 206) ∨ (h.st = 200) := by omega
  have p12 : (((h.st : Int) != 200) = true ∧ ((h.st : Int) != 206) = false) ∨ (((h.st : Int) != 200) = false ∧ ((h.st : Int) != 206) = true) := by
    rcases hcases with q | q <;> simp [q]
  have HCS := Lib.hid hcases
  clear t1 hcases
  go_upto_region 5 with (fail)
  go_cut [36] from 31 to 36 (fun v wx => v = .bool false ∧ wx = w)
  case first =>
    rcases p12 with ⟨p1, p2⟩ | ⟨p1, p2⟩
    all_goals (go_wp2_with (fail); go_meet; exact ⟨rfl, rfl⟩)
  case rest =>
  obtain ⟨rfl, hw⟩ := hcut
  replace hw := hw.symm
  subst hw
  clear p12 q1 q2 q3
  rcases hkn with ⟨k, hk1, hk0, hk2⟩ | ⟨kd, sz, R0, hk1, hk2, hkd⟩
  · have HY : Hid (headsF c h = (failsF c (formedF k), false)) := Lib.hid (by rw [HX1.out, hk1])
    rw [hk2] at HKD
    have hkb : (k != 0) = true := by simpa using hk0
    clear hk1 hk2 hk0
    go_wp2_with (fail)
    refine (HKD.out _ (Kept.refl _ _)).mono ?_
    rintro e w1 ⟨rfl, k1⟩
    have H1 := Lib.hid (And.intro (HH.out.kept (ofBD k1) (by simp)) ((ofBD k1).mono (by simp : ∀ x ∈ ([] : List Nat), x ∈ [b])))
    go_wp2_with (fail)
    refine (shaped_any k w1).mono ?_
    rintro e w6 ⟨rfl, rfl⟩
    go_wp2_with (fail)
    refine (rfails_any b _ y (formedF k) _ H1.out.1).mono ?_
    rintro e w7 ⟨rfl, h7, k7⟩
    go_wp2_with (fail)
    go_ret
    rw [HY.out]
    exact ⟨rfl, h7, H1.out.2.trans' k7⟩
  obtain ⟨z1, z2, z3⟩ := kind_size hkd
  have HX2 : Hid (headsF c h = heads2 { c with body := some R0 } R0 h) := Lib.hid (by rw [HX1.out, hk1])
  rw [hk2] at HKD
  clear hk1 hk2 hkd HX1
  go_wp2_with (fail)
  refine (HKD.out _ (Kept.refl _ _)).mono ?_
  rintro e w1 ⟨rfl, k1⟩
  have h1 := HH.out.kept (ofBD k1) (by simp)
  have K1 := Lib.hid (ofBD k1)
  have H1 := Lib.hid h1
  clear c0 c1 c2 c3 c4 c5 c6 c7 c8 c9 c10 c11 c12 c13 c14 c15 c16 c17 c18 c19 c20 c21 c22 c23 c24 c25 hf
  obtain ⟨c0, c1, c2, c3, c4, c5, c6, c7, c8, c9, c10, c11, c12, c13, c14, c15, c16, c17, c18, c19, c20, c21, c22, c23, c24, c25⟩ := (h1).cells
  have hf := (h1).free
  rw [HST.out] at c19
  clear k1 h1
  rcases HCS.out with s6 | s0
  case inr =>
    have p1 : ((h.st : Int) == 206) = false := by simp; omega
    have HX3 : Hid (headsF c h = heads3 { c with body := some R0, skip := c.got } sz) := Lib.hid (by rw [HX2.out, HX.out, if_neg (by omega), z1])
    clear s0
    go_upto_region 22 with (fail)
    have H2 : Hid (MAt (w1.setCell ⟨b, 24, none⟩ (I c.got)) b { c with body := some R0, skip := c.got } y ∧ Kept [b] w (w1.setCell ⟨b, 24, none⟩ (I c.got))) := Lib.hid ⟨(H1.out.set24 c.got).of rfl, (K1.out.mono (by simp)).setCell (.inl (by simp)) _⟩
    obtain ⟨W, hW⟩ : ∃ W, w1.setCell ⟨b, 24, none⟩ (I c.got) = W := ⟨_, rfl⟩
    have hW' : w1.setCell ⟨b, 24, none⟩ (Value.int .i64 c.got) = W := hW
    rw [hW] at H2
    rw [hW']
    clear c0 c1 c2 c3 c4 c5 c6 c7 c8 c9 c10 c11 c12 c13 c14 c15 c16 c17 c18 c19 c20 c21 c22 c23 c24 c25 hf
    clear hW hW' z1
    obtain ⟨c0, c1, c2, c3, c4, c5, c6, c7, c8, c9, c10, c11, c12, c13, c14, c15, c16, c17, c18, c19, c20, c21, c22, c23, c24, c25⟩ := (H2.out.1).cells
    have hf := (H2.out.1).free
    by_cases a1 : sz < 0
    · have HY : Hid (headsF c h = ({ c with body := some R0, skip := c.got }, true)) := Lib.hid (by rw [HX3.out]; unfold heads3; rw [if_pos a1])
      go_wp2_with (fail)
      go_ret
      rw [HY.out]
      exact ⟨rfl, H2.out.1, H2.out.2⟩
    have n1 : decide (sz < 0) = false := decide_eq_false a1
    by_cases a2 : c.limit < sz
    · have HY : Hid (headsF c h = (failsF { c with body := some R0, skip := c.got } 193, false)) := Lib.hid (by rw [HX3.out]; unfold heads3; rw [if_neg a1, if_pos a2])
      go_wp2_with (fail)
      refine (rfails_any b _ y 193 _ H2.out.1).mono ?_
      rintro e w7 ⟨rfl, h7, k7⟩
      go_wp2_with (fail)
      go_ret
      rw [HY.out]
      exact ⟨rfl, h7, H2.out.2.trans' k7⟩
    have n2 : decide (c.limit < sz) = false := decide_eq_false a2
    have hw : (c.total < 0 ∧ sz < c.got) ∨ (c.total < 0 ∧ ¬ sz < c.got) ∨ (0 ≤ c.total ∧ c.total ≠ sz) ∨ (0 ≤ c.total ∧ c.total = sz ∧ sz < c.got) ∨ (0 ≤ c.total ∧ c.total = sz ∧ ¬ sz < c.got) := by omega
    rcases hw with ⟨b1, b2⟩ | ⟨b1, b2⟩ | ⟨b1, b2⟩ | ⟨b1, b2, b3⟩ | ⟨b1, b2, b3⟩
    · have HY : Hid (headsF c h = (failsF { c with body := some R0, skip := c.got } 192, false)) := Lib.hid (by rw [HX3.out]; unfold heads3; rw [if_neg a1, if_neg a2, if_pos (.inr b2)])
      have n3 : decide (0 ≤ c.total) = false := decide_eq_false (by omega)
      go_wp2_with (fail)
      refine (rfails_any b _ y 192 _ H2.out.1).mono ?_
      rintro e w7 ⟨rfl, h7, k7⟩
      go_wp2_with (fail)
      go_ret
      rw [HY.out]
      exact ⟨rfl, h7, H2.out.2.trans' k7⟩
    · have HY : Hid (headsF c h = ({ { c with body := some R0, skip := c.got } with total := sz }, true)) := Lib.hid (by rw [HX3.out]; unfold heads3; rw [if_neg a1, if_neg a2, if_neg (by show ¬ ((0 ≤ c.total ∧ c.total ≠ sz) ∨ sz < c.got); omega)])
      have n3 : decide (0 ≤ c.total) = false := decide_eq_false (by omega)
      have n4 : decide (sz < c.got) = false := decide_eq_false b2
      go_wp2_with (fail)
      go_ret
      rw [HY.out]
      exact ⟨rfl, H2.out.1.set10 _, H2.out.2.setCell (.inl (by simp)) _⟩
    · have HY : Hid (headsF c h = (failsF { c with body := some R0, skip := c.got } 192, false)) := Lib.hid (by rw [HX3.out]; unfold heads3; rw [if_neg a1, if_neg a2, if_pos (.inl ⟨b1, b2⟩)])
      have n4 : (c.total != sz) = true := by simpa using b2
      clear b2
      go_wp2_with (fail)
      refine (rfails_any b _ y 192 _ H2.out.1).mono ?_
      rintro e w7 ⟨rfl, h7, k7⟩
      go_wp2_with (fail)
      go_ret
      rw [HY.out]
      exact ⟨rfl, h7, H2.out.2.trans' k7⟩
    · have HY : Hid (headsF c h = (failsF { c with body := some R0, skip := c.got } 192, false)) := Lib.hid (by rw [HX3.out]; unfold heads3; rw [if_neg a1, if_neg a2, if_pos (.inr b3)])
      have n4 : (c.total != sz) = false := by simpa using b2
      clear b2
      go_wp2_with (fail)
      refine (rfails_any b _ y 192 _ H2.out.1).mono ?_
      rintro e w7 ⟨rfl, h7, k7⟩
      go_wp2_with (fail)
      go_ret
      rw [HY.out]
      exact ⟨rfl, h7, H2.out.2.trans' k7⟩
    · have HY : Hid (headsF c h = ({ { c with body := some R0, skip := c.got } with total := sz }, true)) := Lib.hid (by rw [HX3.out]; unfold heads3; rw [if_neg a1, if_neg a2, if_neg (by show ¬ ((0 ≤ c.total ∧ c.total ≠ sz) ∨ sz < c.got); omega)])
      have n4 : (c.total != sz) = false := by simpa using b2
      have n5 : decide (sz < c.got) = false := decide_eq_false b3
      clear b2
      go_wp2_with (fail)
      go_ret
      rw [HY.out]
      exact ⟨rfl, H2.out.1.set10 _, H2.out.2.setCell (.inl (by simp)) _⟩
  have p1 : ((h.st : Int) == 206) = true := by simp; omega
  have HX3 : Hid (headsF c h = if spanYes { c with body := some R0 } R0 (spanF v) n = true then heads3 { c with body := some R0, left := (spanF v).t - (spanF v).f + 1 } (spanF v).a else (failsF { c with body := some R0 } 192, false)) := Lib.hid (by rw [HX2.out, HX.out, if_pos s6])
  clear s6 HX HX2
  have hrs := range_way v
  generalize spanF v = sp at *
  obtain ⟨ra, rb, rt, ro, hrr⟩ : ∃ ra rb rt ro, rangeF v = (ra, rb, rt, ro) := ⟨_, _, _, _, rfl⟩
  rw [hrr] at HRG hrs
  clear hrr
  go_wp2_with (fail)
  refine (HG.out _ K1.out).mono ?_
  rintro e w2 ⟨rfl, k2⟩
  have K2 := Lib.hid (K1.out.trans' k2)
  clear k2
  go_wp2_with (fail)
  refine (HRG.out _).mono ?_
  rintro e w3 ⟨rfl, k3⟩
  have K3 := Lib.hid (K2.out.trans' k3)
  have h3 := HH.out.kept K3.out (by simp)
  have H3 := Lib.hid h3
  clear c0 c1 c2 c3 c4 c5 c6 c7 c8 c9 c10 c11 c12 c13 c14 c15 c16 c17 c18 c19 c20 c21 c22 c23 c24 c25 hf
  obtain ⟨c0, c1, c2, c3, c4, c5, c6, c7, c8, c9, c10, c11, c12, c13, c14, c15, c16, c17, c18, c19, c20, c21, c22, c23, c24, c25⟩ := (h3).cells
  have hf := (h3).free
  clear k3 h3
  have hway : n ≠ 1 ∨ (n = 1 ∧ sp.ok = false ∧ ro = false) ∨ (n = 1 ∧ sp.ok = true ∧ ro = true ∧ ra = sp.f ∧ rb = sp.t ∧ rt = sp.a ∧ 0 ≤ sp.f ∧ sp.f ≤ sp.t ∧ sp.t < sp.a ∧ sp.a ≤ 999999999) := by
    by_cases hn1 : n = 1
    · rcases hrs with ⟨g1, g2, g3⟩ | ⟨g1, g2⟩
      · simp only [Prod.mk.injEq] at g2
        exact .inr (.inr ⟨hn1, g1, g2.2.2.2, g2.1, g2.2.1, g2.2.2.1, g3⟩)
      · exact .inr (.inl ⟨hn1, g1, g2⟩)
    · exact .inl hn1
  clear hrs
  rcases hway with n1 | ⟨n1, n2, rfl⟩ | ⟨n1, n2, rfl, rfl, rfl, rfl, r1, r2, r3, r4⟩
  · have HY : Hid (headsF c h = (failsF { c with body := some R0 } 192, false)) := Lib.hid (by rw [HX3.out, if_neg (by unfold spanYes; simp [n1])])
    have q1 : ((n : Int) != 1) = true := by simp; omega
    clear n1
    go_wp2_with (fail)
    refine (rfails_any b _ y 192 _ H3.out).mono ?_
    rintro e w7 ⟨rfl, h7, k7⟩
    go_wp2_with (fail)
    go_ret
    rw [HY.out]
    exact ⟨rfl, h7.of rfl, (K3.out.mono (by simp)).trans' k7⟩
  · have HY : Hid (headsF c h = (failsF { c with body := some R0 } 192, false)) := Lib.hid (by rw [HX3.out, if_neg (by unfold spanYes; simp [n2])])
    have q1 : ((n : Int) != 1) = false := by simp; omega
    clear n1 n2
    go_wp2_with (fail)
    refine (rfails_any b _ y 192 _ H3.out).mono ?_
    rintro e w7 ⟨rfl, h7, k7⟩
    go_wp2_with (fail)
    go_ret
    rw [HY.out]
    exact ⟨rfl, h7.of rfl, (K3.out.mono (by simp)).trans' k7⟩
  have q1 : ((n : Int) != 1) = false := by simp; omega
  have w3' : IntKind.i64.wrap (sp.t - sp.f) = sp.t - sp.f := by rw [IntKind.wrap_i64]; omega
  have w4' : IntKind.i64.wrap (sp.t - sp.f + 1) = sp.t - sp.f + 1 := by rw [IntKind.wrap_i64]; omega
  by_cases m1 : sp.f = c.got
  case neg =>
    have HY : Hid (headsF c h = (failsF { c with body := some R0 } 192, false)) := Lib.hid (by rw [HX3.out, if_neg (by unfold spanYes; simp [m1])])
    have q2 : (sp.f != c.got) = true := by simpa using m1
    clear n1 m1
    go_wp2_with (fail)
    refine (rfails_any b _ y 192 _ H3.out).mono ?_
    rintro e w7 ⟨rfl, h7, k7⟩
    go_wp2_with (fail)
    go_ret
    rw [HY.out]
    exact ⟨rfl, h7.of rfl, (K3.out.mono (by simp)).trans' k7⟩
  have q2 : (sp.f != c.got) = false := by simpa using m1
  by_cases m2 : 0 ≤ sz ∧ sz ≠ sp.t - sp.f + 1
  · have HY : Hid (headsF c h = (failsF { c with body := some R0 } 192, false)) := Lib.hid (by rw [HX3.out, if_neg (by unfold spanYes; rw [z1]; simp only [decide_eq_true_eq]; exact fun g => g.2.2.2 m2)])
    obtain ⟨m3, m4⟩ := m2
    have q3 : (sz != sp.t - sp.f + 1) = true := by simpa using m4
    clear n1 m1 m4
    go_wp2_with (fail)
    refine (rfails_any b _ y 192 _ H3.out).mono ?_
    rintro e w7 ⟨rfl, h7, k7⟩
    go_wp2_with (fail)
    go_ret
    rw [HY.out]
    exact ⟨rfl, h7.of rfl, (K3.out.mono (by simp)).trans' k7⟩
  have HX4 : Hid (headsF c h = heads3 { c with body := some R0, left := sp.t - sp.f + 1 } sp.a) := Lib.hid (by rw [HX3.out, if_pos (by unfold spanYes; rw [z1]; exact decide_eq_true ⟨n1, n2, m1, m2⟩)])
  have m3 : (¬ 0 ≤ sz) ∨ (0 ≤ sz ∧ sz = sp.t - sp.f + 1) := by omega
  clear n1 m1 m2 HX3
  go_upto_region 16 with (fail)
  go_cut [97] from 72 to 97 (fun v97 wx => v97 = .bool false ∧ wx = w3)
  case first =>
    rcases m3 with m3 | ⟨m3, m4⟩
    · have q3 : decide (0 ≤ sz) = false := decide_eq_false (by omega)
      go_wp2_with (fail)
      go_meet
      exact ⟨rfl, rfl⟩
    · have q3 : (sz != sp.t - sp.f + 1) = false := by simpa using m4
      clear m4
      go_wp2_with (fail)
      go_meet
      exact ⟨rfl, rfl⟩
  case rest =>
  obtain ⟨rfl, hw⟩ := hcut
  replace hw := hw.symm
  subst hw
  go_upto_region 22 with (fail)
  have H2 : Hid (MAt (w3.setCell ⟨b, 25, none⟩ (I (sp.t - sp.f + 1))) b { c with body := some R0, left := sp.t - sp.f + 1 } y ∧ Kept [b] w (w3.setCell ⟨b, 25, none⟩ (I (sp.t - sp.f + 1)))) := Lib.hid ⟨(H3.out.set25 (sp.t - sp.f + 1)).of rfl, (K3.out.mono (by simp)).setCell (.inl (by simp)) _⟩
  obtain ⟨W, hW⟩ : ∃ W, w3.setCell ⟨b, 25, none⟩ (I (sp.t - sp.f + 1)) = W := ⟨_, rfl⟩
  have hW' : w3.setCell ⟨b, 25, none⟩ (Value.int .i64 (sp.t - sp.f + 1)) = W := hW
  rw [hW] at H2
  rw [hW']
  clear c0 c1 c2 c3 c4 c5 c6 c7 c8 c9 c10 c11 c12 c13 c14 c15 c16 c17 c18 c19 c20 c21 c22 c23 c24 c25 hf
  clear hW hW' z1 m3
  obtain ⟨c0, c1, c2, c3, c4, c5, c6, c7, c8, c9, c10, c11, c12, c13, c14, c15, c16, c17, c18, c19, c20, c21, c22, c23, c24, c25⟩ := (H2.out.1).cells
  have hf := (H2.out.1).free
  by_cases a1 : sp.a < 0
  · have HY : Hid (headsF c h = ({ c with body := some R0, left := sp.t - sp.f + 1 }, true)) := Lib.hid (by rw [HX4.out]; unfold heads3; rw [if_pos a1])
    go_wp2_with (fail)
    go_ret
    rw [HY.out]
    exact ⟨rfl, H2.out.1, H2.out.2⟩
  have n1 : decide (sp.a < 0) = false := decide_eq_false a1
  by_cases a2 : c.limit < sp.a
  · have HY : Hid (headsF c h = (failsF { c with body := some R0, left := sp.t - sp.f + 1 } 193, false)) := Lib.hid (by rw [HX4.out]; unfold heads3; rw [if_neg a1, if_pos a2])
    go_wp2_with (fail)
    refine (rfails_any b _ y 193 _ H2.out.1).mono ?_
    rintro e w7 ⟨rfl, h7, k7⟩
    go_wp2_with (fail)
    go_ret
    rw [HY.out]
    exact ⟨rfl, h7, H2.out.2.trans' k7⟩
  have n2 : decide (c.limit < sp.a) = false := decide_eq_false a2
  have hw : (c.total < 0 ∧ sp.a < c.got) ∨ (c.total < 0 ∧ ¬ sp.a < c.got) ∨ (0 ≤ c.total ∧ c.total ≠ sp.a) ∨ (0 ≤ c.total ∧ c.total = sp.a ∧ sp.a < c.got) ∨ (0 ≤ c.total ∧ c.total = sp.a ∧ ¬ sp.a < c.got) := by omega
  rcases hw with ⟨b1, b2⟩ | ⟨b1, b2⟩ | ⟨b1, b2⟩ | ⟨b1, b2, b3⟩ | ⟨b1, b2, b3⟩
  · have HY : Hid (headsF c h = (failsF { c with body := some R0, left := sp.t - sp.f + 1 } 192, false)) := Lib.hid (by rw [HX4.out]; unfold heads3; rw [if_neg a1, if_neg a2, if_pos (.inr b2)])
    have n3 : decide (0 ≤ c.total) = false := decide_eq_false (by omega)
    go_wp2_with (fail)
    refine (rfails_any b _ y 192 _ H2.out.1).mono ?_
    rintro e w7 ⟨rfl, h7, k7⟩
    go_wp2_with (fail)
    go_ret
    rw [HY.out]
    exact ⟨rfl, h7, H2.out.2.trans' k7⟩
  · have HY : Hid (headsF c h = ({ { c with body := some R0, left := sp.t - sp.f + 1 } with total := sp.a }, true)) := Lib.hid (by rw [HX4.out]; unfold heads3; rw [if_neg a1, if_neg a2, if_neg (by show ¬ ((0 ≤ c.total ∧ c.total ≠ sp.a) ∨ sp.a < c.got); omega)])
    have n3 : decide (0 ≤ c.total) = false := decide_eq_false (by omega)
    have n4 : decide (sp.a < c.got) = false := decide_eq_false b2
    go_wp2_with (fail)
    go_ret
    rw [HY.out]
    exact ⟨rfl, H2.out.1.set10 _, H2.out.2.setCell (.inl (by simp)) _⟩
  · have HY : Hid (headsF c h = (failsF { c with body := some R0, left := sp.t - sp.f + 1 } 192, false)) := Lib.hid (by rw [HX4.out]; unfold heads3; rw [if_neg a1, if_neg a2, if_pos (.inl ⟨b1, b2⟩)])
    have n4 : (c.total != sp.a) = true := by simpa using b2
    clear b2
    go_wp2_with (fail)
    refine (rfails_any b _ y 192 _ H2.out.1).mono ?_
    rintro e w7 ⟨rfl, h7, k7⟩
    go_wp2_with (fail)
    go_ret
    rw [HY.out]
    exact ⟨rfl, h7, H2.out.2.trans' k7⟩
  · have HY : Hid (headsF c h = (failsF { c with body := some R0, left := sp.t - sp.f + 1 } 192, false)) := Lib.hid (by rw [HX4.out]; unfold heads3; rw [if_neg a1, if_neg a2, if_pos (.inr b3)])
    have n4 : (c.total != sp.a) = false := by simpa using b2
    clear b2
    go_wp2_with (fail)
    refine (rfails_any b _ y 192 _ H2.out.1).mono ?_
    rintro e w7 ⟨rfl, h7, k7⟩
    go_wp2_with (fail)
    go_ret
    rw [HY.out]
    exact ⟨rfl, h7, H2.out.2.trans' k7⟩
  · have HY : Hid (headsF c h = ({ { c with body := some R0, left := sp.t - sp.f + 1 } with total := sp.a }, true)) := Lib.hid (by rw [HX4.out]; unfold heads3; rw [if_neg a1, if_neg a2, if_neg (by show ¬ ((0 ≤ c.total ∧ c.total ≠ sp.a) ∨ sp.a < c.got); omega)])
    have n4 : (c.total != sp.a) = false := by simpa using b2
    have n5 : decide (sp.a < c.got) = false := decide_eq_false b3
    clear b2
    go_wp2_with (fail)
    go_ret
    rw [HY.out]
    exact ⟨rfl, H2.out.1.set10 _, H2.out.2.setCell (.inl (by simp)) _⟩
end CL
end
end Go.Proofs.YtgdncdhalnijcaaGreatDoor
