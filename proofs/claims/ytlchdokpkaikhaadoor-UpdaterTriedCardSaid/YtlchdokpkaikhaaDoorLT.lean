/- Walks and lemmas on the program of this seat, used by its statements; each theorem bears its own conditions. -/
import Derived.Test.YtlchdokpkaikhaaDoorLS
import Derived.Handy
import Derived.IntWalk
import Derived.Deep.RegionHeld3
namespace Go.Proofs.YtlchdokpkaikhaaDoor
open Go.RowKit
set_option linter.unusedVariables false
set_option linter.unusedSimpArgs false
/-! ### UpdaterTried -/
theorem tried_law {s t : St} {e : Ev} {a : Int} (h : MayP s) (hs : stepF s e = (t, a)) :
    (t.ok = true → s.ok = false → e.ki = 3 ∧ e.sl = s.sl ∧ e.up = false ∧ (s.ph = 2 ∨ s.ph = 3)) ∧
    (a = 3 → s.ph = 3 ∧ e.ki = 4 ∧ e.ok = true ∧ t = s) ∧ (a = 2 → t.ph = 2 ∧ 1 ≤ t.sz) ∧ (a = 1 → t.ph = 1) := by
  have := (stepF_law e h).2.2.2.2.2.2.2
  rw [hs] at this
  exact this
abbrev E7 (w : World) (b : Nat) (e : Ev) : Prop :=
  w.cell? ⟨b, 0, none⟩ = some (I e.ki) ∧ w.cell? ⟨b, 1, none⟩ = some (I e.id) ∧ w.cell? ⟨b, 2, none⟩ = some (I e.sl) ∧ w.cell? ⟨b, 3, none⟩ = some (I e.sz) ∧ w.cell? ⟨b, 4, none⟩ = some (I e.sq) ∧ w.cell? ⟨b, 5, none⟩ = some (.bool e.up) ∧ w.cell? ⟨b, 6, none⟩ = some (.bool e.ok)
set_option maxHeartbeats 8000000 in
set_option maxRecDepth 100000 in
theorem tried_no (s : St) (e : Ev) (w : World) (hT : Tabs w) (h : ¬ MayP s) :
    Calls Tryd.prog 7 #[VS s, VE e] w fun r w' => r = .returned (.bool true) ∧ Kept [] w w' := by
  have HT := Lib.hid hT
  have HS := Lib.hid (stepF_not (e := e) h)
  have HM := Lib.hid (mayB_f h)
  clear hT h
  go_enter Tryd.func7, Tryd.ntmps7
  go_wp2_with (fail)
  refine (step_at s s e 0 _ HS.out).mono ?_
  rintro r w1 ⟨rfl, k1⟩
  have b1 : w1.heap[w.heap.size]? = some (boxS s) := k1.at (((Kept.refl [] _).alloc (boxE e)).at (heap_new w (boxS s)) (by simp)) (by simp)
  obtain ⟨p0, p1, p2, p3, p4, p5, p6⟩ := cells7 b1
  have L1 : w.heap.size < w1.heap.size := lt_of_block b1
  have H1 := Lib.hid (And.intro b1 ((((Kept.refl [] w).alloc (boxS s)).alloc (boxE e)).trans' k1))
  clear k1 b1
  go_wp2_with (fail)
  refine (may_at' s false _ HM.out).mono ?_
  rintro r w2 ⟨rfl, rfl⟩
  go_wp2_with (fail)
  refine (fixed_any _ (HT.out.kept ((H1.out.2.alloc _).alloc _))).mono ?_
  rintro r w2 ⟨rfl, k2⟩
  go_wp2
  go_ret
  exact ⟨rfl, ((H1.out.2.alloc _).alloc _).trans' k2⟩
set_option maxHeartbeats 16000000 in
set_option maxRecDepth 100000 in
theorem tried_yes (s : St) (e : Ev) (w : World) (hT : Tabs w) (h : MayP s) :
    Calls Tryd.prog 7 #[VS s, VE e] w fun r w' => r = .returned (.bool true) ∧ Kept [] w w' := by
  have HT := Lib.hid hT
  obtain ⟨t, a, hst⟩ : ∃ t a, stepF s e = (t, a) := ⟨_, _, rfl⟩
  have HL := Lib.hid (tried_law h hst)
  have HS := Lib.hid hst
  have HM := Lib.hid (mayB_t h)
  clear hT h hst
  go_enter Tryd.func7, Tryd.ntmps7
  go_wp2_with (fail)
  refine (step_at s t e a _ HS.out).mono ?_
  rintro r w1 ⟨rfl, k1⟩
  have b1 : w1.heap[w.heap.size]? = some (boxS s) := k1.at (((Kept.refl [] _).alloc (boxE e)).at (heap_new w (boxS s)) (by simp)) (by simp)
  have b2 : w1.heap[w.heap.size + 1]? = some (boxE e) := k1.at (iter_at (w.alloc (boxS s)) (boxE e) _ (by simp)) (by simp)
  obtain ⟨p0, p1, p2, p3, p4, p5, p6⟩ := cells7 b1
  have L1 : w.heap.size < w1.heap.size := lt_of_block b1
  have H1 := Lib.hid (And.intro b1 (And.intro b2 ((((Kept.refl [] w).alloc (boxS s)).alloc (boxE e)).trans' k1)))
  clear k1 b1 b2
  go_wp2_with (fail)
  refine (may_at' s true _ HM.out).mono ?_
  rintro r w2 ⟨rfl, rfl⟩
  clear p0 p1 p2 p3 p4 p5 p6 L1
  have kw : Kept [] w1 ((w1.alloc (boxS t)).alloc (boxS s)) := ((Kept.refl [] w1).alloc _).alloc _
  have c1 := kw.at H1.out.1 (by simp)
  have c2 := kw.at H1.out.2.1 (by simp)
  have c3 : ((w1.alloc (boxS t)).alloc (boxS s)).heap[w1.heap.size]? = some (boxS t) := ((Kept.refl [] _).alloc _).at (heap_new w1 _) (by simp)
  have KW := Lib.hid (H1.out.2.2.trans' kw)
  generalize hWX : (w1.alloc (boxS t)).alloc (boxS s) = W at c1 c2 c3 kw KW ⊢
  obtain ⟨p0, p1, p2, p3, p4, p5, p6⟩ := cells7 c1
  obtain ⟨q0, q1, q2, q3, q4, q5, q6⟩ := cells7 c2
  obtain ⟨r0, r1, r2, r3, r4, r5, r6⟩ := cells7 c3
  have HC := Lib.hid c3
  clear c1 c2 c3 kw hWX
  go_upto_region 4 with (fail)
  go_cut [8, 9, 13, 58] from 26 to 59 (fun _ _ _ v wx => v = .bool false ∧ W = wx)
  case first =>
    go_wp2
    all_goals
      go_meet
      refine ⟨?_, rfl⟩
      have hl := HL.out.1
      clear p0 p1 p2 p3 p4 p5 p6 q0 q1 q2 q3 q4 q5 q6 r0 r1 r2 r3 r4 r5 r6
      first
        | rfl
        | (exfalso; simp_all; done)
        | (exfalso; simp_all; omega)
        | (simp_all; done)
        | (simp_all; omega)
  case rest =>
    obtain ⟨rfl, rfl⟩ := hcut
    go_upto_region 6 with (fail)
    go_cut [6, 7, 8, 9, 10, 12, 13, 80] from 59 to 81 (fun v6 _ _ _ _ _ _ v wx => v6 = I a ∧ v = .bool false ∧ W = wx)
    case first =>
      go_wp2
      all_goals
        go_meet
        refine ⟨by first | rfl | (simp_all; done), ?_, rfl⟩
        have hl := HL.out.2.1
        clear p0 p1 p2 p3 p4 p5 p6 q0 q1 q2 q3 q4 q5 q6 r0 r1 r2 r3 r4 r5 r6
        first
          | rfl
          | (exfalso; simp_all; done)
          | (exfalso; simp_all; omega)
          | (simp_all; done)
          | (simp_all; omega)
    case rest =>
      obtain ⟨rfl, rfl, rfl⟩ := hcut
      go_upto_region 8 with (fail)
      go_cut [6, 7, 8, 9, 10, 12, 13, 92] from 81 to 93 (fun v6 _ _ _ _ _ _ v wx => v6 = I a ∧ v = .bool false ∧ W = wx)
      case first =>
        go_wp2
        all_goals
          go_meet
          refine ⟨by first | rfl | (simp_all; done), ?_, rfl⟩
          have hl := HL.out.2.2.1
          clear p0 p1 p2 p3 p4 p5 p6 q0 q1 q2 q3 q4 q5 q6 r0 r1 r2 r3 r4 r5 r6
          first
            | rfl
            | (exfalso; simp_all; done)
            | (exfalso; simp_all; omega)
            | (simp_all; done)
            | (simp_all; omega)
      case rest =>
        obtain ⟨rfl, rfl, rfl⟩ := hcut
        clear p0 p1 p2 p3 p4 p5 p6 q0 q1 q2 q3 q4 q5 q6 r0 r1 r2 r3 r4 r5 r6
        have hw1 : w1.heap.size < W.heap.size := lt_of_block HC.out
        go_wp2_with (fail)
        refine (fixed_any W (HT.out.kept KW.out)).mono ?_
        rintro r w2 ⟨rfl, k2⟩
        have r0 : w2.cell? ⟨w1.heap.size, 0, none⟩ = some (I t.ph) := by rw [cell_at (k2.at HC.out (by simp))]; rfl
        have K2 := Lib.hid (KW.out.trans' k2)
        clear k2
        go_wp2
        all_goals
          go_ret
          refine ⟨ret_B ?_, K2.out⟩
          have hl := HL.out.2.2.2
          first
            | rfl
            | (exfalso; simp_all; done)
            | (exfalso; simp_all; omega)
            | (simp_all; done)
            | (simp_all; omega)
theorem triedLaw_any (s : St) (e : Ev) (w : World) (hT : Tabs w) :
    Calls Tryd.prog 7 #[VS s, VE e] w fun r w' => r = .returned (.bool true) ∧ Kept [] w w' := by
  by_cases h : MayP s
  · exact tried_yes s e w hT h
  · exact tried_no s e w hT h
end Go.Proofs.YtlchdokpkaikhaaDoor
