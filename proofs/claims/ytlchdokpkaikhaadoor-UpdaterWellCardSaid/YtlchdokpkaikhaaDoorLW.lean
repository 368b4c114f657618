/- Walks and lemmas on the program of this seat, used by its statements; each theorem bears its own conditions. -/
import Derived.Test.YtlchdokpkaikhaaDoorLS
import Derived.Handy
import Derived.IntWalk
import Derived.Deep.RegionHeld3
namespace Go.Proofs.YtlchdokpkaikhaaDoor
open Go.RowKit
set_option linter.unusedVariables false
set_option linter.unusedSimpArgs false
/-! ### UpdaterWell -/
def Good (la id sl sz sq : Int) : Prop := 0 ≤ la ∧ la ≤ 2147483647 ∧ la < id ∧ id ≤ 2147483647 ∧ 1 ≤ sz ∧ sz ≤ 16777215 ∧ 1 ≤ sq ∧ sq ≤ 1099511627776 ∧ 0 ≤ sl ∧ sl ≤ 1
instance (la id sl sz sq : Int) : Decidable (Good la id sl sz sq) := by unfold Good; infer_instance
def wellS (la id sl sz sq : Int) : Nat → St
  | 0 => ⟨0, 0, 0, 0, 0, false, la⟩
  | 1 => ⟨1, id, sl, 0, 0, false, la⟩
  | 2 => ⟨2, id, sl, sz, sq, false, la⟩
  | 3 => ⟨2, id, sl, sz, sq, false, la⟩
  | 4 => ⟨3, id, sl, sz, sq, false, la⟩
  | 5 => ⟨3, id, sl, sz, sq, false, la⟩
  | 6 => ⟨4, id, sl, sz, sq, true, la⟩
  | 7 => ⟨4, id, sl, sz, sq, true, la⟩
  | _ => ⟨0, 0, 0, 0, 0, false, id⟩
def wellL (id sl sz sq : Int) : Nat → Ev
  | 0 => ⟨0, id, sl, 0, 0, false, false⟩
  | 1 => ⟨1, 0, 0, sz, sq, false, false⟩
  | 2 => ⟨3, 0, 1 - sl, 0, sq, false, false⟩
  | 3 => ⟨3, 0, sl, 0, sq + 2, true, false⟩
  | 4 => ⟨4, 0, 0, 0, 0, false, true⟩
  | 5 => ⟨3, 0, sl, 0, sq + 3, false, false⟩
  | 6 => ⟨3, 0, sl, 0, sq + 3, false, false⟩
  | _ => ⟨5, 0, 0, 0, 0, false, false⟩
def wellW : Nat → Int
  | 0 => 1
  | 1 => 2
  | 2 => 2
  | 3 => 0
  | 4 => 3
  | 5 => 5
  | 6 => 5
  | _ => 0
theorem well_may {la id sl sz sq : Int} (h : Good la id sl sz sq) (k : Nat) (hk : k < 8) : MayP (wellS la id sl sz sq k) := by
  unfold Good at h
  match k, hk with
  | 0, _ => exact ⟨by unfold OkP; simp only [wellS]; omega, .inl (by simp [wellS])⟩
  | 1, _ => exact ⟨by unfold OkP; simp only [wellS]; omega, .inr (.inl (by simp [wellS]; omega))⟩
  | 2, _ => exact ⟨by unfold OkP; simp only [wellS]; omega, .inr (.inr (.inl (by simp [wellS]; omega)))⟩
  | 3, _ => exact ⟨by unfold OkP; simp only [wellS]; omega, .inr (.inr (.inl (by simp [wellS]; omega)))⟩
  | 4, _ => exact ⟨by unfold OkP; simp only [wellS]; omega, .inr (.inr (.inl (by simp [wellS]; omega)))⟩
  | 5, _ => exact ⟨by unfold OkP; simp only [wellS]; omega, .inr (.inr (.inl (by simp [wellS]; omega)))⟩
  | 6, _ => exact ⟨by unfold OkP; simp only [wellS]; omega, .inr (.inr (.inr (by simp [wellS]; omega)))⟩
  | 7, _ => exact ⟨by unfold OkP; simp only [wellS]; omega, .inr (.inr (.inr (by simp [wellS]; omega)))⟩
theorem well_step {la id sl sz sq : Int} (h : Good la id sl sz sq) (k : Nat) (hk : k < 8) : stepF (wellS la id sl sz sq k) (wellL id sl sz sq k) = (wellS la id sl sz sq (k + 1), wellW k) := by
  have hm := well_may h k hk
  unfold Good at h
  match k, hk with
  | 0, _ => rw [stepF_0 hm rfl, if_pos (by simp [wellS, wellL]; omega)]; rfl
  | 1, _ => rw [stepF_1 hm rfl]; unfold loadF; rw [if_pos (by rfl), if_pos (by simp [wellL]; omega)]; rfl
  | 2, _ => rw [stepF_23 hm (.inl rfl), if_pos (by rfl)]; unfold bootF; rw [if_pos ⟨rfl, rfl⟩]; rfl
  | 3, _ => rw [stepF_23 hm (.inl rfl), if_pos (by rfl)]; unfold bootF; rw [if_neg (by simp [wellS, wellL]; omega), if_neg (by simp [wellS, wellL]), if_neg (by simp [wellL])]; rfl
  | 4, _ => rw [stepF_23 hm (.inr rfl), if_neg (by simp [wellL]), if_pos ⟨rfl, rfl⟩]; rfl
  | 5, _ => rw [stepF_23 hm (.inr rfl), if_pos (by rfl)]; unfold bootF; rw [if_neg (by simp [wellS]), if_neg (by simp [wellS, wellL]), if_pos (by rfl)]; rfl
  | 6, _ => rw [stepF_4 hm rfl, if_neg (by simp [wellL]), if_pos (by rfl)]; rfl
  | 7, _ => rw [stepF_4 hm rfl, if_pos (by rfl)]; rfl
theorem well_other {la id sl sz sq : Int} (h : Good la id sl sz sq) (k : Nat) (hk : k < 8) {o : St} {d : Int} (hs : stepF (wellS la id sl sz sq k) ⟨3, 0, 1 - sl, 0, sq + 9, false, false⟩ = (o, d)) :
    ((wellS la id sl sz sq k).ph = 2 ∨ (wellS la id sl sz sq k).ph = 3) → o.ph = 4 ∧ o.ok = false ∧ d = 5 := by
  have hm := well_may h k hk
  unfold Good at h
  intro hp
  rw [stepF_23 hm hp, if_pos (by rfl)] at hs
  have hsl : (wellS la id sl sz sq k).sl = sl := by
    match k, hk with
    | 0, _ => simp [wellS] at hp
    | 1, _ => rfl
    | 2, _ => rfl
    | 3, _ => rfl
    | 4, _ => rfl
    | 5, _ => rfl
    | 6, _ => rfl
    | 7, _ => rfl
  have hsq : (wellS la id sl sz sq k).ph = 2 → (wellS la id sl sz sq k).sq = sq := by
    intro h2
    match k, hk with
    | 0, _ => simp [wellS] at h2
    | 1, _ => simp [wellS] at h2
    | 2, _ => rfl
    | 3, _ => rfl
    | 4, _ => simp [wellS] at h2
    | 5, _ => simp [wellS] at h2
    | 6, _ => simp [wellS] at h2
    | 7, _ => simp [wellS] at h2
  unfold bootF at hs
  rw [if_neg (by rintro ⟨a, b⟩; rw [hsq a] at b; simp at b; omega), if_pos (by rw [hsl]; simp; omega)] at hs
  cases hs
  exact ⟨rfl, rfl, rfl⟩
/-! ### UpdaterWell: the walk -/
theorem good_bool {la id sl sz sq : Int} {x : Bool} (h : x = decide (¬ Good la id sl sz sq)) : Value.bool x = .bool (decide (¬ Good la id sl sz sq)) := congrArg _ h
abbrev E7o (w : World) (b o : Nat) (e : Ev) : Prop :=
  w.cell? ⟨b, o, none⟩ = some (I e.ki) ∧ w.cell? ⟨b, o + 1, none⟩ = some (I e.id) ∧ w.cell? ⟨b, o + 2, none⟩ = some (I e.sl) ∧ w.cell? ⟨b, o + 3, none⟩ = some (I e.sz) ∧ w.cell? ⟨b, o + 4, none⟩ = some (I e.sq) ∧ w.cell? ⟨b, o + 5, none⟩ = some (.bool e.up) ∧ w.cell? ⟨b, o + 6, none⟩ = some (.bool e.ok)
theorem E7o.step {w w' : World} {b o : Nat} {e : Ev} {l : List Nat} (h : E7o w b o e) (hb : b < w.heap.size) (k : Kept l w w') (hn : b ∉ l) : E7o w' b o e := by
  obtain ⟨h0, h1, h2, h3, h4, h5, h6⟩ := h
  have hc : ∀ i, w'.cell? ⟨b, i, none⟩ = w.cell? ⟨b, i, none⟩ := fun i => k.cell (p := ⟨b, i, none⟩) hb hn
  exact ⟨by rw [hc]; exact h0, by rw [hc]; exact h1, by rw [hc]; exact h2, by rw [hc]; exact h3, by rw [hc]; exact h4, by rw [hc]; exact h5, by rw [hc]; exact h6⟩
set_option maxHeartbeats 8000000 in
set_option maxRecDepth 100000 in
theorem wellLaw_any (la id : Int) (e : Ev) (w : World) (hT : Tabs w) :
    Calls Tryd.prog 8 #[I la, I id, VE e] w fun r w' => r = .returned (.bool true) ∧ Kept [] w w' := by
  have HT := Lib.hid hT
  obtain ⟨b, hb⟩ : ∃ b, mayB ⟨0, 0, 0, 0, 0, false, la⟩ = b := ⟨_, rfl⟩
  have hbb : b = decide (0 ≤ la ∧ la ≤ 2147483647) := by
    rw [← hb]; unfold mayB MayP OkP; refine decide_eq_decide.2 ?_; simp
  have HM := Lib.hid hb
  have HBB := Lib.hid hbb
  clear hT hb hbb
  go_enter Tryd.func8, Tryd.ntmps8
  go_upto_region 2 with (fail)
  have b0 : ((w.alloc (boxE e)).alloc (boxS ⟨0, 0, 0, 0, 0, false, la⟩)).heap[w.heap.size]? = some (boxE e) := ((Kept.refl [] _).alloc _).at (heap_new w _) (by simp)
  have b1 : ((w.alloc (boxE e)).alloc (boxS ⟨0, 0, 0, 0, 0, false, la⟩)).heap[w.heap.size + 1]? = some (boxS ⟨0, 0, 0, 0, 0, false, la⟩) := iter_at _ _ _ (by simp)
  have k0 : Kept [] w ((w.alloc (boxE e)).alloc (boxS ⟨0, 0, 0, 0, 0, false, la⟩)) := ((Kept.refl _ _).alloc _).alloc _
  generalize hW : (w.alloc (boxE e)).alloc (boxS ⟨0, 0, 0, 0, 0, false, la⟩) = W at b0 b1 k0 ⊢
  obtain ⟨q0, q1, q2, q3, q4, q5, q6⟩ := cells7 b0
  obtain ⟨p0, p1, p2, p3, p4, p5, p6⟩ := cells7 b1
  have hs0 : w.heap.size < W.heap.size := lt_of_block b0
  have hs1 : w.heap.size + 1 < W.heap.size := lt_of_block b1
  have H0 := Lib.hid (And.intro b0 (And.intro b1 k0))
  clear b0 b1 k0 hW
  go_cut [56] from 15 to 57 (fun v wx => v = .bool (decide (¬ Good la id e.sl e.sz e.sq)) ∧ W.alloc (boxS ⟨0, 0, 0, 0, 0, false, la⟩) = wx)
  case first =>
    go_wp2_with (fail)
    refine (may_at' ⟨0, 0, 0, 0, 0, false, la⟩ b _ HM.out).mono ?_
    rintro r w2 ⟨rfl, rfl⟩
    cases b
    · go_wp2
      have hb := of_decide_eq_false HBB.out.symm
      all_goals
        go_meet
        refine ⟨?_, rfl⟩
        clear p0 p1 p2 p3 p4 p5 p6 q0 q1 q2 q3 q4 q5 q6
        first
          | (refine bool_t ?_; unfold Good; omega)
          | (refine bool_f ?_; unfold Good; omega)
          | (refine bool_d ?_; unfold Good; omega)
          | (refine good_bool ?_; rw [Bool.eq_iff_iff]; simp [Good]; omega)
          | (refine good_bool ?_; unfold Good; simp_all; done)
    · have hb := of_decide_eq_true HBB.out.symm
      go_wp2
      all_goals
        go_meet
        refine ⟨?_, rfl⟩
        clear p0 p1 p2 p3 p4 p5 p6 q0 q1 q2 q3 q4 q5 q6
        first
          | (refine bool_t ?_; unfold Good; omega)
          | (refine bool_f ?_; unfold Good; omega)
          | (refine bool_d ?_; unfold Good; omega)
          | (refine good_bool ?_; rw [Bool.eq_iff_iff]; simp [Good]; omega)
          | (refine good_bool ?_; unfold Good; simp_all; done)
  case rest =>
    obtain ⟨rfl, rfl⟩ := hcut
    clear p0 p1 p2 p3 p4 p5 p6
    have K1 := Lib.hid (H0.out.2.2.alloc (boxS ⟨0, 0, 0, 0, 0, false, la⟩))
    by_cases hG : Good la id e.sl e.sz e.sq
    · rw [show decide (¬ Good la id e.sl e.sz e.sq) = false from decide_eq_false (fun h => h hG)]
      have HG := Lib.hid hG
      unfold Good at hG
      obtain ⟨g1, g2, g3, g4, g5, g6, g7, g8, g9, g10⟩ := hG
      go_wp2_with (fail)
      generalize hW3 : ((W.alloc (boxS ⟨0, 0, 0, 0, 0, false, la⟩)).alloc _).alloc _ = W3
      have hk3 : Kept [] W W3 := by rw [← hW3]; exact (((Kept.refl _ _).alloc _).alloc _).alloc _
      have hkw : ∀ k, k < 8 → W3.cell? ⟨W.heap.size + 1, k, none⟩ = some (I (wellW k)) := by
        intro k hk
        rw [← hW3, cell_at (((Kept.refl [] _).alloc _).at (iter_at (W.alloc _) _ _ (by simp)) (by simp))]
        match k, hk with
        | 0, _ => rfl
        | 1, _ => rfl
        | 2, _ => rfl
        | 3, _ => rfl
        | 4, _ => rfl
        | 5, _ => rfl
        | 6, _ => rfl
        | 7, _ => rfl
      have hkl : ∀ k, k < 8 → E7o W3 (W.heap.size + 1 + 1) (k * 7) (wellL id e.sl e.sz e.sq k) := by
        intro k hk
        match k, hk with
        | 0, _ => (refine ⟨?_, ?_, ?_, ?_, ?_, ?_, ?_⟩ <;> (rw [← hW3, cell_at (iter_at _ _ _ (by simp))]; rfl))
        | 1, _ => (refine ⟨?_, ?_, ?_, ?_, ?_, ?_, ?_⟩ <;> (rw [← hW3, cell_at (iter_at _ _ _ (by simp))]; rfl))
        | 2, _ => (refine ⟨?_, ?_, ?_, ?_, ?_, ?_, ?_⟩ <;> (rw [← hW3, cell_at (iter_at _ _ _ (by simp))]; rfl))
        | 3, _ => (refine ⟨?_, ?_, ?_, ?_, ?_, ?_, ?_⟩ <;> (rw [← hW3, cell_at (iter_at _ _ _ (by simp))]; rfl))
        | 4, _ => (refine ⟨?_, ?_, ?_, ?_, ?_, ?_, ?_⟩ <;> (rw [← hW3, cell_at (iter_at _ _ _ (by simp))]; rfl))
        | 5, _ => (refine ⟨?_, ?_, ?_, ?_, ?_, ?_, ?_⟩ <;> (rw [← hW3, cell_at (iter_at _ _ _ (by simp))]; rfl))
        | 6, _ => (refine ⟨?_, ?_, ?_, ?_, ?_, ?_, ?_⟩ <;> (rw [← hW3, cell_at (iter_at _ _ _ (by simp))]; rfl))
        | 7, _ => (refine ⟨?_, ?_, ?_, ?_, ?_, ?_, ?_⟩ <;> (rw [← hW3, cell_at (iter_at _ _ _ (by simp))]; rfl))
      have H3 := Lib.hid (And.intro (hk3.at H0.out.1 (by simp)) (And.intro (hk3.at H0.out.2.1 (by simp)) (And.intro (H0.out.2.2.trans' hk3) (And.intro hkw hkl))))
      have hz3 : W.heap.size + 1 + 1 < W3.heap.size := by rw [← hW3]; simp
      clear hkw hkl hW3 hk3 q0 q1 q2 q3 q4 q5 q6
      go_loopw [10] (fun i wr => ∃ k : Nat, k ≤ 8 ∧ i = I k ∧ wr.heap[w.heap.size + 1]? = some (boxS (wellS la id e.sl e.sz e.sq k)) ∧ Kept [w.heap.size + 1] W3 wr) (fun i _ => 8 - (intOf i).toNat)
      case atStart => exact ⟨0, by omega, rfl, H3.out.2.1, Kept.refl _ _⟩
      case round =>
        obtain ⟨k, hk, rfl, hb, hkr⟩ := hrel
        have HK := Lib.hid (And.intro hb hkr)
        clear hb hkr
        by_cases hlt : k < 8
        · have hlt' : (k : Int) < 8 := by omega
          have hk0 : (0 : Int) ≤ k := by omega
          obtain ⟨s, hs⟩ : ∃ s, wellS la id e.sl e.sz e.sq k = s := ⟨_, rfl⟩
          obtain ⟨t, ht⟩ : ∃ t, wellS la id e.sl e.sz e.sq (k + 1) = t := ⟨_, rfl⟩
          obtain ⟨o, d, ho⟩ : ∃ o d, stepF s ⟨3, 0, 1 - e.sl, 0, e.sq + 9, false, false⟩ = (o, d) := ⟨_, _, rfl⟩
          have hoth := well_other HG.out k hlt (o := o) (d := d) (by rw [hs]; exact ho)
          have hst := well_step HG.out k hlt
          rw [hs, ht] at hst
          rw [hs] at hoth
          have h5 : k = 5 → t.ph = 4 ∧ t.ok = true := by intro e5; subst e5; rw [← ht]; exact ⟨rfl, rfl⟩
          have HF := Lib.hid (And.intro ho (And.intro hoth (And.intro hst (And.intro ht h5))))
          have b1 : wr.heap[w.heap.size + 1]? = some (boxS s) := by rw [← hs]; exact HK.out.1
          have b2 : wr.heap[w.heap.size]? = some (boxE e) := HK.out.2.at H3.out.1 (by simp)
          clear ho hoth hst hs ht h5
          obtain ⟨p0, p1, p2, p3, p4, p5, p6⟩ := cells7 b1
          obtain ⟨q0, q1, q2, q3, q4, q5, q6⟩ := cells7 b2
          have HB := Lib.hid b1
          clear b1 b2
          go_wp2_with (fail)
          refine (step_at s o ⟨3, 0, 1 - e.sl, 0, e.sq + 9, false, false⟩ d _ HF.out.1).mono ?_
          rintro r w3 ⟨rfl, k3⟩
          clear p0 p1 p2 p3 p4 p5 p6 q0 q1 q2 q3 q4 q5 q6
          have k4 := k3.alloc (boxS o)
          have c1 := k4.at HB.out (by simp)
          have c2 : (w3.alloc (boxS o)).heap[w3.heap.size]? = some (boxS o) := heap_new w3 _
          have el := (H3.out.2.2.2.2 k hlt).step hz3 HK.out.2 (by simp; omega)
          have ew := (HK.out.2.cell (p := ⟨W.heap.size + 1, k, none⟩) (by show W.heap.size + 1 < _; omega) (by simp; omega)).trans (H3.out.2.2.2.1 k hlt)
          have hz4 : W.heap.size + 1 + 1 < wr.heap.size := Nat.lt_of_lt_of_le hz3 HK.out.2.size
          have el4 := el.step hz4 k4 (by simp)
          have ew4 := k4.cellOf ew
          go_upto_region 10 with (fail)
          generalize hW4 : w3.alloc (boxS o) = W4 at k4 c1 c2 el4 ew4 ⊢
          have H4 := Lib.hid (And.intro c1 (And.intro k4 (And.intro el4 ew4)))
          obtain ⟨p0, p1, p2, p3, p4, p5, p6⟩ := cells7 c1
          obtain ⟨r0, r1, r2, r3, r4, r5, r6⟩ := cells7 c2
          have hz5 : W.heap.size + 1 + 1 < W4.heap.size := Nat.lt_of_lt_of_le hz4 k4.size
          have hb5 : w.heap.size + 1 < W4.heap.size := lt_of_block c1
          clear k4 c1 c2 el el4 ew ew4 k3 hW4
          go_cut [12, 101, 102, 110, 111, 112, 133] from 113 to 134 (fun _ _ _ _ _ _ v wx => v = .bool false ∧ W4 = wx)
          case first =>
            go_wp2
            all_goals
              go_meet
              refine ⟨?_, rfl⟩
              have hl := HF.out.2.1
              clear p0 p1 p2 p3 p4 p5 p6 r0 r1 r2 r3 r4 r5 r6 g1 g2 g3 g4 g5 g6 g7 g8 g9 g10
              first
                | rfl
                | (exfalso; simp_all; done)
                | (exfalso; simp_all; omega)
                | (simp_all; done)
                | (simp_all; omega)
          case rest =>
            obtain ⟨rfl, rfl⟩ := hcut
            clear r0 r1 r2 r3 r4 r5 r6
            obtain ⟨e0, e1, e2, e3, e4, e5, e6⟩ := H4.out.2.2.1
            go_upto_region 12 with (fail)
            go_cut [12] from 134 to 143 (fun v wx => v = I (wellW k) ∧ wx.heap[w.heap.size + 1]? = some (boxS t) ∧ Kept [w.heap.size + 1] W4 wx)
            case first =>
              go_region_with ((go_at_call 9; (with_reducible refine (step_at s t (wellL id e.sl e.sz e.sq k) (wellW k) _ HF.out.2.2.1).mono ?_); rintro r w5 ⟨rfl, k5⟩; have HZ := Lib.hid (And.intro (k5.at H4.out.1 (by simp)) k5); obtain ⟨z0, z1, z2, z3, z4, z5, z6⟩ := cells7 HZ.out.1; obtain ⟨f0, f1, f2, f3, f4, f5, f6⟩ := frozen7 HZ.out.1; clear k5))
              all_goals
                go_wp2
                go_meet
                refine ⟨rfl, heap_setCell_at (heap_setCell_at (heap_setCell_at (heap_setCell_at (heap_setCell_at (heap_setCell_at (heap_setCell_at HZ.out.1 0 _) 1 _) 2 _) 3 _) 4 _) 5 _) 6 _, ?_⟩
                exact ((((((((Kept.refl [w.heap.size + 1] W4).drew.trans' (HZ.out.2.mono (by simp))).setCell (.inl (by simp)) _).setCell (.inl (by simp)) _).setCell (.inl (by simp)) _).setCell (.inl (by simp)) _).setCell (.inl (by simp)) _).setCell (.inl (by simp)) _).setCell (.inl (by simp)) _
            case rest =>
              obtain ⟨rfl, hbt, hkt⟩ := hcut
              obtain ⟨W5, hW5⟩ : ∃ W5, W5 = wc := ⟨_, rfl⟩
              subst hW5
              clear p0 p1 p2 p3 p4 p5 p6 e0 e1 e2 e3 e4 e5 e6
              obtain ⟨r0, r1, r2, r3, r4, r5, r6⟩ := cells7 hbt
              have ew := (hkt.cell (p := ⟨W.heap.size + 1, k, none⟩) (by show W.heap.size + 1 < _; omega) (by simp; omega)).trans H4.out.2.2.2
              have H5 := Lib.hid (And.intro hbt hkt)
              clear hbt hkt
              by_cases h5 : k = 5
              · obtain ⟨t1, t2⟩ := HF.out.2.2.2.2 h5
                rw [t1] at r0
                rw [t2] at r5
                subst h5
                go_wp2
                go_roundw
                case rel =>
                  refine ⟨5 + 1, by omega, by go_num, ?_, (HK.out.2.trans' (H4.out.2.1.mono (by simp))).trans' H5.out.2⟩
                  rw [HF.out.2.2.2.1]; exact H5.out.1
                case measure => simp [intOf]
              · have h5' : ((k : Int) == 5) = false := by rw [beq_eq_false_iff_ne]; omega
                clear h5
                go_wp2
                go_roundw
                case rel =>
                  refine ⟨k + 1, by omega, by go_num, ?_, (HK.out.2.trans' (H4.out.2.1.mono (by simp))).trans' H5.out.2⟩
                  rw [HF.out.2.2.2.1]; exact H5.out.1
                case measure => simp [intOf]; omega
        · obtain rfl : k = 8 := by omega
          have b8 : wr.heap[w.heap.size + 1]? = some (boxS ⟨0, 0, 0, 0, 0, false, id⟩) := HK.out.1
          obtain ⟨p0, p1, p2, p3, p4, p5, p6⟩ := cells7 b8
          have kf := H3.out.2.2.1.new1 HK.out.2 (by omega)
          have HKF := Lib.hid kf
          clear b8 kf
          go_wp2_with (fail)
          refine (fixed_any _ (HT.out.kept HKF.out)).mono ?_
          rintro r w2 ⟨rfl, k2⟩
          go_wp2
          go_ret
          exact ⟨rfl, HKF.out.trans' k2⟩
    · rw [show decide (¬ Good la id e.sl e.sz e.sq) = true from decide_eq_true hG]
      clear q0 q1 q2 q3 q4 q5 q6 hs0 hs1 hG
      go_wp2_with (fail)
      refine (fixed_any _ (HT.out.kept K1.out)).mono ?_
      rintro r w2 ⟨rfl, k2⟩
      go_wp2
      go_ret
      exact ⟨rfl, K1.out.trans' k2⟩
end Go.Proofs.YtlchdokpkaikhaaDoor
