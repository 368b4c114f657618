/- Walks and lemmas on the program of this seat, used by its statements; each theorem bears its own conditions. -/
import Derived.Test.YtlchdokpkaikhaaDoorLS
import Derived.Test.YtlchdokpkaikhaaDoorCU
import Derived.Handy
import Derived.IntWalk
import Derived.Deep.RegionHeld3
namespace Go.Proofs.YtlchdokpkaikhaaDoor
open Go.RowKit
set_option linter.unusedVariables false
set_option linter.unusedSimpArgs false
/-! ### UpdaterOnce -/
def OnceW (B0 bt : Nat) (s t : St) (W wx : World) : Prop := wx.heap[B0]? = some (boxS s) ∧ wx.heap[bt]? = some (boxS t) ∧ W.heap.size ≤ bt ∧ Kept [] W wx
theorem OnceW.late {B0 : Nat} {s t : St} {W w1 : World} (h : W.heap[B0]? = some (boxS s)) (k : Kept [] W.drew w1) : OnceW B0 w1.heap.size s t W (w1.alloc (boxS t)) :=
  ⟨(((Kept.refl [] W).drew.trans' k).alloc _).at h (by simp), heap_new w1 (boxS t), k.size, ((Kept.refl [] W).drew.trans' k).alloc _⟩
theorem zero_at {wr w3 : World} (k : Kept [] ((wr.alloc (.cells #[.int .i64 0, .int .i64 0, .int .i64 0, .int .i64 0, .int .i64 0, .bool false, .int .i64 0] 23)).drew) w3) : w3.heap[wr.heap.size]? = some (.cells #[.int .i64 0, .int .i64 0, .int .i64 0, .int .i64 0, .int .i64 0, .bool false, .int .i64 0] 23 (0, 0)) := k.at (heap_new wr _) (by simp)
theorem OnceW.early {B0 : Nat} {s t : St} {W w3 : World} (h : W.heap[B0]? = some (boxS s)) (k : Kept [] ((W.alloc (.cells #[.int .i64 0, .int .i64 0, .int .i64 0, .int .i64 0, .int .i64 0, .bool false, .int .i64 0] 23)).drew) w3) :
    OnceW B0 W.heap.size s t W (((((((w3.setCell ⟨W.heap.size, 0, none⟩ (.int .i64 t.ph)).setCell ⟨W.heap.size, 1, none⟩ (.int .i64 t.id)).setCell ⟨W.heap.size, 2, none⟩ (.int .i64 t.sl)).setCell ⟨W.heap.size, 3, none⟩ (.int .i64 t.sz)).setCell ⟨W.heap.size, 4, none⟩ (.int .i64 t.sq)).setCell ⟨W.heap.size, 5, none⟩ (.bool t.ok)).setCell ⟨W.heap.size, 6, none⟩ (.int .i64 t.la)) := by
  have hz := zero_at k
  have kk := ((Kept.refl [] W).alloc (.cells #[.int .i64 0, .int .i64 0, .int .i64 0, .int .i64 0, .int .i64 0, .bool false, .int .i64 0] 23)).drew.trans' k
  have hK := ((((((kk.setCell (p := ⟨W.heap.size, 0, none⟩) (.inr (Nat.le_refl _)) (.int .i64 t.ph)).setCell (p := ⟨W.heap.size, 1, none⟩) (.inr (Nat.le_refl _)) (.int .i64 t.id)).setCell (p := ⟨W.heap.size, 2, none⟩) (.inr (Nat.le_refl _)) (.int .i64 t.sl)).setCell (p := ⟨W.heap.size, 3, none⟩) (.inr (Nat.le_refl _)) (.int .i64 t.sz)).setCell (p := ⟨W.heap.size, 4, none⟩) (.inr (Nat.le_refl _)) (.int .i64 t.sq)).setCell (p := ⟨W.heap.size, 5, none⟩) (.inr (Nat.le_refl _)) (.bool t.ok)).setCell (p := ⟨W.heap.size, 6, none⟩) (.inr (Nat.le_refl _)) (.int .i64 t.la)
  exact ⟨hK.at h (by simp), heap_setCell_at (heap_setCell_at (heap_setCell_at (heap_setCell_at (heap_setCell_at (heap_setCell_at (heap_setCell_at hz 0 _) 1 _) 2 _) 3 _) 4 _) 5 _) 6 _, Nat.le_refl _, hK⟩
theorem OnceW.box {B0 bt : Nat} {s t : St} {W wx : World} (h : OnceW B0 bt s t W wx) (o : Obj) : OnceW B0 bt s t W (wx.alloc o) :=
  ⟨((Kept.refl [] wx).alloc o).at h.1 (by simp), ((Kept.refl [] wx).alloc o).at h.2.1 (by simp), h.2.2.1, h.2.2.2.alloc o⟩
abbrev OnceS (b o B0 : Nat) (s : St) (e : Ev) (W w' : World) : Prop := C7 w' B0 s ∧ w'.cell? ⟨b, o, none⟩ = some (I e.ki) ∧ w'.cell? ⟨b, o + 1, none⟩ = some (I e.id) ∧ w'.cell? ⟨b, o + 2, none⟩ = some (I e.sl) ∧ w'.cell? ⟨b, o + 3, none⟩ = some (I e.sz) ∧ w'.cell? ⟨b, o + 4, none⟩ = some (I e.sq) ∧ w'.cell? ⟨b, o + 5, none⟩ = some (.bool e.up) ∧ w'.cell? ⟨b, o + 6, none⟩ = some (.bool e.ok) ∧ (b < w'.heap.size ∧ B0 < w'.heap.size ∧ Kept [] W w')
theorem OnceS.step {b o B0 : Nat} {s : St} {e : Ev} {W w1 w2 : World} (h : OnceS b o B0 s e W w1) (k : Kept [] w1 w2) : OnceS b o B0 s e W w2 := by
  obtain ⟨h0, e0, e1, e2, e3, e4, e5, e6, l0, l1, hk⟩ := h
  exact ⟨h0.step l1 k, k.cellOf e0, k.cellOf e1, k.cellOf e2, k.cellOf e3, k.cellOf e4, k.cellOf e5, k.cellOf e6, Nat.lt_of_lt_of_le l0 k.size, Nat.lt_of_lt_of_le l1 k.size, hk.trans' k⟩
set_option maxHeartbeats 16000000 in
set_option maxRecDepth 100000 in
theorem once_yes (s : St) (v : Value) (es : List Ev) (w : World) (hes : EvsAt w v es) (hT : Tabs w) (hM : MayP s) :
    Calls Tryd.prog 6 #[VS s, v] w fun r w' => r = .returned (.bool true) ∧ Kept [] w w' := by
  obtain ⟨p, cap, rfl, hl1, hl2, hcell⟩ := hes
  have HT := Lib.hid hT
  have HM := Lib.hid (And.intro (mayB_t hM) hM)
  have HC := Lib.hid hcell
  unfold maxLen at hl2
  have hll : (es.length : Int) ≤ 9223372036854775807 := by omega
  clear hT hM hcell
  go_enter Tryd.func6, Tryd.ntmps6
  go_wp2_with (fail)
  refine (may_at' s true _ HM.out.1).mono ?_
  rintro r w1 ⟨rfl, rfl⟩
  go_wp2_with (fail)
  have k0 : Kept [] w ((w.alloc (boxS s)).alloc (boxS s)) := ((Kept.refl [] w).alloc _).alloc _
  have b0 : ((w.alloc (boxS s)).alloc (boxS s)).heap[w.heap.size]? = some (boxS s) := ((Kept.refl [] _).alloc _).at (heap_new w _) (by simp)
  generalize hW : (w.alloc (boxS s)).alloc (boxS s) = W at k0 b0 ⊢
  have H0 := Lib.hid (And.intro k0 b0)
  clear k0 b0 hW
  go_loopw [5] (fun i wr => ∃ (k : Nat) (s' : St), k ≤ es.length ∧ i = I k ∧ MayP s' ∧ wr.heap[w.heap.size]? = some (boxS s') ∧ Kept [] w wr) (fun i _ => es.length - (intOf i).toNat)
  case atStart => exact ⟨0, s, by omega, rfl, HM.out.2, H0.out.2, H0.out.1⟩
  case round =>
    obtain ⟨k, s', hk, rfl, hM', hb', hk'⟩ := hrel
    have HK := Lib.hid (And.intro hM' (And.intro hb' hk'))
    clear hM' hb' hk'
    by_cases hlt : k < es.length
    · have hlt' : (k : Int) < es.length := by omega
      have hk0 : (0 : Int) ≤ k := by omega
      obtain ⟨b, off, rfl, hcc⟩ := HC.out (by intro e; rw [e] at hlt; simp at hlt)
      obtain ⟨e, he⟩ : ∃ e, es[k] = e := ⟨_, rfl⟩
      have hec := hcc k hlt
      rw [he] at hec
      clear hcc
      obtain ⟨e0, e1, e2, e3, e4, e5, e6⟩ := hec
      have kk := HK.out.2.2
      replace e0 := kk.cellOf e0
      replace e1 := kk.cellOf e1
      replace e2 := kk.cellOf e2
      replace e3 := kk.cellOf e3
      replace e4 := kk.cellOf e4
      replace e5 := kk.cellOf e5
      replace e6 := kk.cellOf e6
      clear kk
      have HE := Lib.hid he
      clear he
      obtain ⟨t, a, hst⟩ : ∃ t a, stepF s' e = (t, a) := ⟨_, _, rfl⟩
      have hlaw := stepF_law e HK.out.1
      rw [hst] at hlaw
      have HS := Lib.hid hst
      have HL := Lib.hid hlaw
      clear hst hlaw
      have c0 : C7 wr w.heap.size s' := C7.of HK.out.2.1
      have hsp : OnceS b (off + k * 7) w.heap.size s' e wr wr := ⟨c0, e0, e1, e2, e3, e4, e5, e6, World.block_lt_of_cell? wr _ e0, lt_of_block HK.out.2.1, Kept.refl _ _⟩
      go_wp2_with (fail)
      go_cut [6, 7] from 16 to 27 (fun v6 v7 wx => ∃ bt, v6 = Ptr bt ∧ v7 = I a ∧ OnceW w.heap.size bt s' t wr wx)
      case first =>
        go_region_held3 (fun w' => OnceS b (off + k * 7) w.heap.size s' e wr w')
          (first | with_reducible assumption | (with_reducible refine OnceS.step hsp ?_; repeat (first | with_reducible exact Kept.refl _ _ | with_reducible refine Kept.drew ?_ | with_reducible refine Kept.alloc ?_ _ | with_reducible refine Kept.setCell ?_ (.inr (Nat.le_refl _)) _ | with_reducible refine Kept.trans' ?_ k3)))
          ((go_at_call 9; (with_reducible refine (step_at s' t e a _ HS.out).mono ?_); rintro r w3 ⟨rfl, k3⟩; try (with_reducible have hz := zero_at k3; obtain ⟨z0, z1, z2, z3, z4, z5, z6⟩ := cells7 hz; obtain ⟨f0, f1, f2, f3, f4, f5, f6⟩ := frozen7 hz; clear hz)))
        all_goals
          go_wp2
          go_meet
          first
            | with_reducible exact ⟨_, rfl, rfl, OnceW.late HK.out.2.1 k3⟩
            | with_reducible exact ⟨_, rfl, rfl, OnceW.early HK.out.2.1 k3⟩
      case rest =>
        obtain ⟨bt, rfl, rfl, how⟩ := hcut
        clear e0 e1 e2 e3 e4 e5 e6 hsp c0
        have HO := Lib.hid how
        have c1 := C7.of how.1
        have c2 := C7.of how.2.1
        obtain ⟨p0, p1, p2, p3, p4, p5, p6⟩ := c1
        obtain ⟨r0, r1, r2, r3, r4, r5, r6⟩ := c2
        have HMT := Lib.hid (mayB_t HL.out.1)
        have l1 := HL.out.2.1
        have l2 := HL.out.2.2.1.1
        have l3 := HL.out.2.2.1.2
        clear how
        go_upto_region 7 with (fail)
        go_cut [44] from 27 to 45 (fun v wx => v = .bool false ∧ OnceW w.heap.size bt s' t wr wx)
        case first =>
          go_wp2_with (fail)
          refine (may_at' t true _ HMT.out).mono ?_
          rintro r w4 ⟨rfl, rfl⟩
          have hs0 : w.heap.size < wc.heap.size := lt_of_block HO.out.1
          have hs1 : bt < wc.heap.size := lt_of_block HO.out.2.1
          go_wp2
          go_meet
          refine ⟨?_, HO.out.box _⟩
          first
            | rfl
            | (refine congrArg Value.bool ?_; simp; omega)
        case rest =>
          obtain ⟨rfl, how⟩ := hcut
          clear p0 p1 p2 p3 p4 p5 p6 r0 r1 r2 r3 r4 r5 r6 HO
          have HO := Lib.hid how
          obtain ⟨p0, p1, p2, p3, p4, p5, p6⟩ := C7.of how.1
          obtain ⟨r0, r1, r2, r3, r4, r5, r6⟩ := C7.of how.2.1
          obtain ⟨W2, hW2⟩ : ∃ W2, W2 = wc := ⟨_, rfl⟩
          subst hW2
          clear how
          go_upto_region 9 with (fail)
          go_cut [7, 65] from 45 to 66 (fun v7 v wx => v7 = I a ∧ v = .bool false ∧ W2 = wx)
          case first =>
            go_wp2
            all_goals
              go_meet
              refine ⟨by first | rfl | (simp_all; done), ?_, rfl⟩
              have hl := HL.out.2.2.2.1
              clear p0 p1 p2 p3 p4 p5 p6 r0 r1 r2 r3 r4 r5 r6 l1 l2 l3
              first
                | rfl
                | (exfalso; simp_all; done)
                | (exfalso; simp_all; omega)
                | (simp_all; done)
                | (simp_all; omega)
                | (rcases hl (by omega) with h | h <;> (subst h; simp_all; done))
                | (rcases hl (by omega) with h | h <;> (subst h; simp_all; omega))
          case rest =>
            obtain ⟨rfl, rfl, rfl⟩ := hcut
            go_upto_region 11 with (fail)
            go_cut [80] from 66 to 81 (fun v wx => v = .bool false ∧ W2 = wx)
            case first =>
              go_wp2
              all_goals
                go_meet
                refine ⟨?_, rfl⟩
                have hl := HL.out.2.2.2.2.1
                clear p0 p1 p2 p3 p4 p5 p6 r0 r1 r2 r3 r4 r5 r6 l1 l2 l3
                first
                  | rfl
                  | (exfalso; simp_all; done)
                  | (exfalso; simp_all; omega)
                  | (simp_all; done)
                  | (simp_all; omega)
                  | (rcases hl (by omega) with h | h <;> (subst h; simp_all; done))
                  | (rcases hl (by omega) with h | h <;> (subst h; simp_all; omega))
            case rest =>
              obtain ⟨rfl, rfl⟩ := hcut
              go_upto_region 13 with (fail)
              go_cut [109] from 81 to 110 (fun v wx => v = .bool false ∧ W2 = wx)
              case first =>
                go_wp2
                all_goals
                  go_meet
                  refine ⟨?_, rfl⟩
                  have hl := HL.out.2.2.2.2.2.1
                  clear p0 p1 p2 p3 p4 p5 p6 r0 r1 r2 r3 r4 r5 r6 l1 l2 l3
                  first
                    | rfl
                    | (exfalso; simp_all; done)
                    | (exfalso; simp_all; omega)
                    | (simp_all; done)
                    | (simp_all; omega)
                    | (rcases hl (by omega) with h | h <;> (subst h; simp_all; done))
                    | (rcases hl (by omega) with h | h <;> (subst h; simp_all; omega))
              case rest =>
                obtain ⟨rfl, rfl⟩ := hcut
                go_upto_region 15 with (fail)
                go_cut [122] from 110 to 123 (fun v wx => v = .bool false ∧ W2 = wx)
                case first =>
                  go_wp2
                  all_goals
                    go_meet
                    refine ⟨?_, rfl⟩
                    have hl := HL.out.2.2.2.2.2.2.1
                    clear p0 p1 p2 p3 p4 p5 p6 r0 r1 r2 r3 r4 r5 r6 l1 l2 l3
                    first
                      | rfl
                      | (exfalso; simp_all; done)
                      | (exfalso; simp_all; omega)
                      | (simp_all; done)
                      | (simp_all; omega)
                      | (rcases hl (by omega) with h | h <;> (subst h; simp_all; done))
                      | (rcases hl (by omega) with h | h <;> (subst h; simp_all; omega))
                case rest =>
                  obtain ⟨rfl, rfl⟩ := hcut
                  obtain ⟨f0, f1, f2, f3, f4, f5, f6⟩ := frozen7 HO.out.1
                  go_wp2
                  go_roundw
                  case rel =>
                    refine ⟨k + 1, t, by omega, by go_num, HL.out.1, heap_setCell_at (heap_setCell_at (heap_setCell_at (heap_setCell_at (heap_setCell_at (heap_setCell_at (heap_setCell_at HO.out.1 0 _) 1 _) 2 _) 3 _) 4 _) 5 _) 6 _, ?_⟩
                    exact (((((((HK.out.2.2.trans' HO.out.2.2.2).setCell (.inr (Nat.le_refl _)) _).setCell (.inr (Nat.le_refl _)) _).setCell (.inr (Nat.le_refl _)) _).setCell (.inr (Nat.le_refl _)) _).setCell (.inr (Nat.le_refl _)) _).setCell (.inr (Nat.le_refl _)) _).setCell (.inr (Nat.le_refl _)) _
                  case measure => simp [intOf]; omega
    · obtain rfl : k = es.length := by omega
      go_wp2_with (fail)
      refine (fixed_any wr (HT.out.kept HK.out.2.2)).mono ?_
      rintro r w2 ⟨rfl, k2⟩
      have K2 := Lib.hid (HK.out.2.2.trans' k2)
      clear k2
      go_wp2
      go_ret
      exact ⟨rfl, K2.out⟩
set_option maxHeartbeats 4000000 in
set_option maxRecDepth 100000 in
theorem once_no (s : St) (v : Value) (es : List Ev) (w : World) (hes : EvsAt w v es) (hT : Tabs w) (hM : ¬ MayP s) :
    Calls Tryd.prog 6 #[VS s, v] w fun r w' => r = .returned (.bool true) ∧ Kept [] w w' := by
  obtain ⟨p, cap, rfl, hl1, hl2, hcell⟩ := hes
  have HT := Lib.hid hT
  have HM := Lib.hid (mayB_f hM)
  clear hT hM hcell hl1 hl2
  go_enter Tryd.func6, Tryd.ntmps6
  go_wp2_with (fail)
  refine (may_at' s false _ HM.out).mono ?_
  rintro r w1 ⟨rfl, rfl⟩
  go_wp2_with (fail)
  refine (fixed_any _ (HT.out.kept (((Kept.refl _ _).alloc _).alloc _))).mono ?_
  rintro r w2 ⟨rfl, k2⟩
  go_wp2
  go_ret
  exact ⟨rfl, (((Kept.refl [] w).alloc _).alloc _).trans' k2⟩
theorem onceLaw_any (s : St) (v : Value) (es : List Ev) (w : World) (hes : EvsAt w v es) (hT : Tabs w) :
    Calls Tryd.prog 6 #[VS s, v] w fun r w' => r = .returned (.bool true) ∧ Kept [] w w' := by
  by_cases h : MayP s
  · exact once_yes s v es w hes hT h
  · exact once_no s v es w hes hT h
end Go.Proofs.YtlchdokpkaikhaaDoor
