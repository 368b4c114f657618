/- Walks and lemmas on the program of this seat, used by its statements; each theorem bears its own conditions. -/
import Derived.Test.YtgdncdhalnijcaaGreatDoorMHJ
import Derived.Handy
import Derived.Recover
import Derived.IntWalk
import Derived.Deep.CutRange
import Derived.OwnWalk
import Derived.Deep.AppendLies
import Derived.Deep.RegionLaw
import Derived.Deep.RegionHeld3
namespace Go.Proofs.YtgdncdhalnijcaaGreatDoor
open Go.RowKit
set_option linter.unusedVariables false
set_option linter.unusedSimpArgs false
set_option maxHeartbeats 8000000
set_option maxRecDepth 100000
/-! ### The reference's Parse -/
theorem rparse_end (W : World) (tmps : Array Value) (b : Nat) (x y z : Value) (hb : Blk W b #[x, y, z] HdT) (ht : tmps.getD 2 undef = Ptr b) :
    (results Tryz.f38 tmps).run Tryz.prog W = .ok (.tuple #[.agg #[x, y, z], tmps.getD 3 undef, tmps.getD 4 undef]) W := by
  obtain ⟨c0, c1, c2⟩ := cells3 hb
  rw [Array.getD_eq_getD_getElem?] at ht
  simp [results, Tryz.results38, go_sem, ht, c0, c1, c2]
theorem rfail_end {w wr : World} {a : Act} {r : HR} {e : Nat} (hb : Blk wr w.heap.size #[I 0, nilV, nilV] HdT) (hk : Kept [] w wr) (hr : r = .fail e) (h2 : a.tmps.getD 2 undef = Ptr w.heap.size) (h3 : a.tmps.getD 3 undef = I 0) (h4 : a.tmps.getD 4 undef = I e) (hd : a.defers = []) :
    bodyPost Tryz.prog Tryz.f38 (ParsePost w r) .ret a (((wr.setCell ⟨w.heap.size, 0, none⟩ (I 0)).setCell ⟨w.heap.size, 1, none⟩ nilV).setCell ⟨w.heap.size, 2, none⟩ nilV) := by
  refine bodyPost_ret (rparse_end _ _ _ _ _ _ (((hb.set 0 (I 0)).set 1 nilV).set 2 nilV) h2) hd ?_
  rw [h3, h4]
  refine ⟨nilV, nilV, by rw [hr]; rfl, by rw [hr]; exact OwnT.nil _ _, by rw [hr]; exact OwnT.nil _ _, ((hk.setCell (.inr (Nat.le_refl _)) _).setCell (.inr (Nat.le_refl _)) _).setCell (.inr (Nat.le_refl _)) _⟩
theorem rdone_end {w wr : World} {a : Act} {r : HR} {h : Hd} {n : Nat} {v1 v2 : Value} (hb : Blk wr w.heap.size #[I 0, nilV, nilV] HdT) (hk : Kept [] w wr) (hp : PA (w.heap.size + 1 + 1) wr (w.heap.size + 1) #[I h.st, v1, v2] v1 h.ns v2 h.vs) (hr : r = .done h n)
    (h2 : a.tmps.getD 2 undef = Ptr w.heap.size) (h3 : a.tmps.getD 3 undef = I n) (h4 : a.tmps.getD 4 undef = I 0) (hd : a.defers = []) :
    bodyPost Tryz.prog Tryz.f38 (ParsePost w r) .ret a (((wr.setCell ⟨w.heap.size, 0, none⟩ (I h.st)).setCell ⟨w.heap.size, 1, none⟩ v1).setCell ⟨w.heap.size, 2, none⟩ v2) := by
  refine bodyPost_ret (rparse_end _ _ _ _ _ _ (((hb.set 0 (I h.st)).set 1 v1).set 2 v2) h2) hd ?_
  rw [h3, h4]
  have hq := ((hp.other (c := w.heap.size) (o := 0) (u := I h.st) (by omega) (by omega)).other (c := w.heap.size) (o := 1) (u := v1) (by omega) (by omega)).other (c := w.heap.size) (o := 2) (u := v2) (by omega) (by omega)
  exact ⟨v1, v2, by rw [hr]; rfl, by rw [hr]; exact hq.o1.mono (by omega), by rw [hr]; exact hq.o2.mono (by omega), ((hk.setCell (.inr (Nat.le_refl _)) _).setCell (.inr (Nat.le_refl _)) _).setCell (.inr (Nat.le_refl _)) _⟩
theorem nameL_at (l : List UInt8) (k : Nat) (hk : k ≤ l.length) (h1 : ∀ j, j < k → byteAt l j ≠ 58) (h2 : k = l.length ∨ byteAt l k = 58) : (nameL l).length = k := by
  induction l generalizing k with
  | nil => simp at hk; subst hk; rfl
  | cons c l ih =>
    unfold nameL at ih ⊢
    rw [List.takeWhile_cons]
    cases k with
    | zero =>
      have hc : c = 58 := by
        rcases h2 with h2 | h2
        · simp at h2
        · exact h2
      subst hc; rfl
    | succ k =>
      have hc : c ≠ 58 := h1 0 (by omega)
      rw [if_pos (by simp [hc]), List.length_cons, ih k (by simpa using hk) (fun j hj => h1 (j + 1) (by omega)) (by rcases h2 with h2 | h2; exact .inl (by simpa using h2); exact .inr h2)]
theorem rparse_any (s : List UInt8) (w : World) (hs : s.length ≤ 4611686018427387904) (r : HR) (hr : parseF s = r) :
    Calls Tryz.prog 38 #[S s] w (ParsePost w r) := by
  have hs' : (s.length : Int) ≤ 4611686018427387904 := by omega
  have HR := Lib.hid hr
  clear hr
  have h0 : Blk ((w.alloc (.cells #[I 0, nilV, nilV] HdT)).alloc (.cells #[I 0, nilV, nilV] HdT)) w.heap.size #[I 0, nilV, nilV] HdT := Blk.alloc (heap_new w _) _
  have h1 : Blk ((w.alloc (.cells #[I 0, nilV, nilV] HdT)).alloc (.cells #[I 0, nilV, nilV] HdT)) (w.heap.size + 1) #[I 0, nilV, nilV] HdT := by
    have := heap_new (w.alloc (.cells #[I 0, nilV, nilV] HdT)) (.cells #[I 0, nilV, nilV] HdT)
    rw [World.size_alloc] at this
    exact this
  have H0 := Lib.hid (And.intro h0 h1)
  clear h0 h1
  go_enter Tryz.func38, Tryz.ntmps38
  go_wp2_with (fail)
  go_loopw [6, 7, 8, 9, 10, 11] (fun a i _ _ _ _ wr => ∃ (n j : Nat) (h : Hd) (v1 v2 : Value), a = I n ∧ i = I j ∧ j ≤ 3000 ∧ n ≤ s.length ∧ n ≤ 2048 ∧ h.ns.length ≤ 32 ∧ h.vs.length = h.ns.length ∧ runF s (3000 - j) h n = r ∧
      Blk wr w.heap.size #[I 0, nilV, nilV] HdT ∧ PA (w.heap.size + 1 + 1) wr (w.heap.size + 1) #[I h.st, v1, v2] v1 h.ns v2 h.vs ∧ Kept [] w wr) (fun _ i _ _ _ _ _ => 3000 - (intOf i).toNat)
  case atStart =>
    exact ⟨0, 0, zeroH, nilV, nilV, rfl, rfl, by omega, by omega, by omega, by simp [zeroH], rfl, HR.out, H0.out.1, ⟨H0.out.2, OwnT.nil _ _, OwnT.nil _ _, (fun g hg => by cases hg), (by omega)⟩, ((Kept.refl _ _).alloc _).alloc _⟩
  case round =>
    obtain ⟨n, j, h, v1, v2, rfl, rfl, hj, hn, hn2, hl, hll, hrun, hb0, hpa, hkw⟩ := hrel
    obtain ⟨p1, q1, rfl⟩ := hpa.o1.form
    obtain ⟨p2, q2, rfl⟩ := hpa.o2.form
    have hnl' : (h.ns.length : Int) ≤ 32 := by omega
    have hvl' : (h.vs.length : Int) ≤ 32 := by omega
    have HK := Lib.hid (And.intro hb0 (And.intro hpa hkw))
    obtain ⟨c00, c01, c02⟩ := cells3 hb0
    have f00 := hb0.free 0
    have f01 := hb0.free 1
    have f02 := hb0.free 2
    obtain ⟨c10, c11, c12⟩ := hpa.cells
    have f10 := hpa.free 0
    have f11 := hpa.free 1
    have f12 := hpa.free 2
    have hlt0 : w.heap.size < wr.heap.size := lt_of_block hb0
    have hlt1 := hpa.hlt
    clear hb0 hpa hkw H0
    by_cases hj3 : j = 3000
    · subst hj3
      have HF : Hid (r = .fail 171) := Lib.hid (by rw [← hrun]; rfl)
      clear hj hl hll hrun
      go_wp2_with (fail)
      exact rfail_end HK.out.1 HK.out.2.2 HF.out rfl rfl rfl rfl
    have hj2 : (j : Int) < 3000 := by omega
    have hn' : (n : Int) ≤ s.length := by omega
    have hn2' : (n : Int) ≤ 2048 := by omega
    rw [show 3000 - j = (2999 - j) + 1 by omega, runF_succ] at hrun
    have HL := Lib.hid (And.intro hl (And.intro hll hrun))
    clear hl hll hrun
    cases hc : crlf (s.drop n) with
    | none =>
      have HE := Lib.hid (endZ_none hc)
      obtain ⟨L, hL⟩ : ∃ L, lenCR (s.drop n) = L := ⟨_, rfl⟩
      have HF : Hid (r = .fail (if L ≤ 256 ∧ s.length < 2048 then 172 else 171)) := Lib.hid (by rw [← HL.out.2.2, turn_none hc, hL])
      have hLd := lenCR_drop s n hn
      rw [hL] at hLd
      have HLD := Lib.hid hLd
      clear hc hL hLd
      go_wp2_with (fail)
      refine (rend_any s n wr hs hn (-1) HE.out).mono ?_
      rintro e w1 ⟨rfl, rfl⟩
      by_cases hns : n < s.length
      · have hns' : (s.length : Int) - n > 0 := by omega
        have e1 : ((s.length : Int) - 1).toNat = s.length - 1 := by omega
        have e2 : (0 : Int) ≤ (s.length : Int) - 1 := by omega
        by_cases h13 : byteAt s (s.length - 1) = 13
        · have h13' : ((byteAt s (s.length - 1)).toNat : Int) = 13 := by rw [h13]; rfl
          have hLL : L = s.length - n - 1 := by rw [HLD.out, if_pos ⟨hns, h13⟩]
          clear h13
          by_cases hL6 : L ≤ 256
          · have hL6' : ¬ ((s.length : Int) - n - 1 > 256) := by omega
            by_cases h48 : s.length < 2048
            · have h48' : ¬ (s.length : Int) ≥ 2048 := by omega
              have HF2 : Hid (r = .fail 172) := Lib.hid (by rw [HF.out, if_pos ⟨hL6, h48⟩])
              go_wp2_with (fail)
              exact rfail_end HK.out.1 HK.out.2.2 HF2.out rfl rfl rfl rfl
            · have h48' : (s.length : Int) ≥ 2048 := by omega
              have HF2 : Hid (r = .fail 171) := Lib.hid (by rw [HF.out, if_neg (fun x => h48 x.2)])
              go_wp2_with (fail)
              exact rfail_end HK.out.1 HK.out.2.2 HF2.out rfl rfl rfl rfl
          · have hL6' : (s.length : Int) - n - 1 > 256 := by omega
            have HF2 : Hid (r = .fail 171) := Lib.hid (by rw [HF.out, if_neg (fun x => hL6 x.1)])
            go_wp2_with (fail)
            exact rfail_end HK.out.1 HK.out.2.2 HF2.out rfl rfl rfl rfl
        · have h13' : (((byteAt s (s.length - 1)).toNat : Int) == 13) = false := by rw [beq_eq_false_iff_ne]; intro e; exact h13 (UInt8.toNat.inj (by show (byteAt s (s.length - 1)).toNat = 13; omega))
          have hLL : L = s.length - n := by rw [HLD.out, if_neg (fun x => h13 x.2)]
          clear h13
          by_cases hL6 : L ≤ 256
          · have hL6' : ¬ ((s.length : Int) - n > 256) := by omega
            by_cases h48 : s.length < 2048
            · have h48' : ¬ (s.length : Int) ≥ 2048 := by omega
              have HF2 : Hid (r = .fail 172) := Lib.hid (by rw [HF.out, if_pos ⟨hL6, h48⟩])
              go_wp2_with (fail)
              exact rfail_end HK.out.1 HK.out.2.2 HF2.out rfl rfl rfl rfl
            · have h48' : (s.length : Int) ≥ 2048 := by omega
              have HF2 : Hid (r = .fail 171) := Lib.hid (by rw [HF.out, if_neg (fun x => h48 x.2)])
              go_wp2_with (fail)
              exact rfail_end HK.out.1 HK.out.2.2 HF2.out rfl rfl rfl rfl
          · have hL6' : (s.length : Int) - n > 256 := by omega
            have HF2 : Hid (r = .fail 171) := Lib.hid (by rw [HF.out, if_neg (fun x => hL6 x.1)])
            go_wp2_with (fail)
            exact rfail_end HK.out.1 HK.out.2.2 HF2.out rfl rfl rfl rfl
      · have hns' : ¬ (s.length : Int) - n > 0 := by omega
        have hLL : L = s.length - n := by rw [HLD.out, if_neg (fun x => hns x.1)]
        by_cases hL6 : L ≤ 256
        · have hL6' : ¬ ((s.length : Int) - n > 256) := by omega
          by_cases h48 : s.length < 2048
          · have h48' : ¬ (s.length : Int) ≥ 2048 := by omega
            have HF2 : Hid (r = .fail 172) := Lib.hid (by rw [HF.out, if_pos ⟨hL6, h48⟩])
            go_wp2_with (fail)
            exact rfail_end HK.out.1 HK.out.2.2 HF2.out rfl rfl rfl rfl
          · have h48' : (s.length : Int) ≥ 2048 := by omega
            have HF2 : Hid (r = .fail 171) := Lib.hid (by rw [HF.out, if_neg (fun x => h48 x.2)])
            go_wp2_with (fail)
            exact rfail_end HK.out.1 HK.out.2.2 HF2.out rfl rfl rfl rfl
        · exfalso; omega
    | some i =>
      have hsp := (crlf_spec hc).1
      rw [List.length_drop] at hsp
      have HE := Lib.hid (endZ_some hc)
      obtain ⟨x, hx⟩ : ∃ x, n + i = x := ⟨_, rfl⟩
      rw [hx] at HE
      have hxi : (x : Int) - n = (i : Int) := by omega
      have hxl : (x : Int) + 2 ≤ s.length := by omega
      have hnx : (n : Int) ≤ x := by omega
      obtain ⟨l, hlx⟩ : ∃ l, (s.drop n).take i = l := ⟨_, rfl⟩
      have hlx2 : (s.take x).drop n = l := by rw [← hlx, List.drop_take]; congr 1; omega
      have hll : l.length = i := by rw [← hlx]; simp; omega
      have HT : Hid (turnF s h n = if 256 < i ∨ 2048 < x + 2 then .fail 171
        else if h.st = 0 then (if statF l = 0 then .fail 170 else .on ⟨statF l, h.ns, h.vs⟩ (x + 2))
        else if i = 0 then .done h (n + 2) else fieldF l h (x + 2)) := Lib.hid (by rw [turn_some hc, hlx, hx])
      have HX := Lib.hid (And.intro hx (And.intro hlx hlx2))
      clear hc hlx hsp hx
      by_cases hbig : 256 < i
      · have HF : Hid (r = .fail 171) := Lib.hid (by rw [← HL.out.2.2, HT.out, if_pos (.inl hbig)])
        have hbig' : (i : Int) > 256 := by omega
        go_wp2_with (fail)
        refine (rend_any s n wr hs hn _ HE.out).mono ?_
        rintro e w1 ⟨rfl, rfl⟩
        go_wp2_with (fail)
        exact rfail_end HK.out.1 HK.out.2.2 HF.out rfl rfl rfl rfl
      have hbig' : ¬ (i : Int) > 256 := by omega
      by_cases hfar : 2048 < x + 2
      · have HF : Hid (r = .fail 171) := Lib.hid (by rw [← HL.out.2.2, HT.out, if_pos (.inr hfar)])
        have hfar' : (x : Int) + 2 > 2048 := by omega
        go_wp2_with (fail)
        refine (rend_any s n wr hs hn _ HE.out).mono ?_
        rintro e w1 ⟨rfl, rfl⟩
        go_wp2_with (fail)
        exact rfail_end HK.out.1 HK.out.2.2 HF.out rfl rfl rfl rfl
      have hfar' : ¬ (x : Int) + 2 > 2048 := by omega
      have HT2 := HT.out
      rw [if_neg (fun y => y.elim hbig hfar)] at HT2
      replace HT := Lib.hid HT2
      clear HT2
      have hll2 : l.length ≤ 256 := by omega
      by_cases hst : h.st = 0
      · have hst' : (h.st : Int) = 0 := by omega
        have HT2 := HT.out
        rw [if_pos hst] at HT2
        replace HT := Lib.hid HT2
        obtain ⟨q, hq⟩ : ∃ q, statF l = q := ⟨_, rfl⟩
        rw [hq] at HT2
        replace HT := Lib.hid HT2
        clear HT2
        go_wp2_with (fail)
        refine (rend_any s n wr hs hn _ HE.out).mono ?_
        rintro e w1 ⟨rfl, rfl⟩
        go_wp2_with (fail)
        refine (rfirst_any l wr (by omega) q hq).mono ?_
        rintro e w1 ⟨rfl, k1⟩
        have H1 : Hid (Blk w1 w.heap.size #[I 0, nilV, nilV] HdT ∧ PA (w.heap.size + 1 + 1) w1 (w.heap.size + 1) #[I h.st, .slice p1 h.ns.length q1, .slice p2 h.vs.length q2] (.slice p1 h.ns.length q1) h.ns (.slice p2 h.vs.length q2) h.vs ∧ Kept [] w w1) := Lib.hid ⟨HK.out.1.kept k1 (by simp), HK.out.2.1.kept k1, HK.out.2.2.trans' k1⟩
        clear k1 c00 c01 c02 c10 c11 c12 f00 f01 f02 f10 f11 f12 hlt0 hlt1
        obtain ⟨c00, c01, c02⟩ := cells3 H1.out.1
        have f00 := H1.out.1.free 0
        have f01 := H1.out.1.free 1
        have f02 := H1.out.1.free 2
        obtain ⟨c10, c11, c12⟩ := H1.out.2.1.cells
        have f10 := H1.out.2.1.free 0
        have hlt0 : w.heap.size < w1.heap.size := lt_of_block H1.out.1
        have hlt1 := H1.out.2.1.hlt
        have H2 : Hid (Blk (w1.setCell ⟨w.heap.size + 1, 0, none⟩ (I q)) w.heap.size #[I 0, nilV, nilV] HdT ∧ PA (w.heap.size + 1 + 1) (w1.setCell ⟨w.heap.size + 1, 0, none⟩ (I q)) (w.heap.size + 1) #[I q, .slice p1 h.ns.length q1, .slice p2 h.vs.length q2] (.slice p1 h.ns.length q1) h.ns (.slice p2 h.vs.length q2) h.vs ∧ Kept [] w (w1.setCell ⟨w.heap.size + 1, 0, none⟩ (I q))) :=
          Lib.hid ⟨H1.out.1.other _ _ _ (by omega), H1.out.2.1.set 0 _, H1.out.2.2.setCell (.inr (by simp)) _⟩
        by_cases hq0 : q = 0
        · have HF : Hid (r = .fail 170) := Lib.hid (by rw [← HL.out.2.2, HT.out, if_pos hq0])
          subst hq0
          go_wp2_with (fail)
          exact rfail_end H2.out.1 H2.out.2.2 HF.out rfl rfl rfl rfl
        · have HF : Hid (runF s (2999 - j) ⟨q, h.ns, h.vs⟩ (x + 2) = r) := Lib.hid (by rw [← HL.out.2.2, HT.out, if_neg hq0])
          have hq0' : ((q : Int) == 0) = false := by rw [beq_eq_false_iff_ne]; omega
          clear hq hst hst'
          go_wp2_with (fail)
          go_roundw
          case rel => exact ⟨x + 2, j + 1, ⟨q, h.ns, h.vs⟩, .slice p1 h.ns.length q1, .slice p2 h.vs.length q2, by go_num, by go_num, by omega, by omega, by omega, HL.out.1, HL.out.2.1, by rw [show 3000 - (j + 1) = 2999 - j by omega]; exact HF.out, H2.out.1, H2.out.2.1, H2.out.2.2⟩
          case measure => simp [intOf]; omega
      have hst' : ((h.st : Int) == 0) = false := by rw [beq_eq_false_iff_ne]; omega
      have HT2 := HT.out
      rw [if_neg hst] at HT2
      replace HT := Lib.hid HT2
      clear HT2
      by_cases hi0 : i = 0
      · have HF : Hid (r = .done h (n + 2)) := Lib.hid (by rw [← HL.out.2.2, HT.out, if_pos hi0])
        have hln : l = [] := List.eq_nil_of_length_eq_zero (by omega)
        have HN2 : Hid (((x : Int) + 2) = ((n + 2 : Nat) : Int)) := Lib.hid (by omega)
        subst hln
        go_wp2_with (fail)
        refine (rend_any s n wr hs hn _ HE.out).mono ?_
        rintro e w1 ⟨rfl, rfl⟩
        go_wp2_with (fail)
        refine rdone_end HK.out.1 HK.out.2.2 HK.out.2.1 HF.out rfl ?_ rfl rfl
        rw [← HN2.out]
        rfl
      have HT2 := HT.out
      rw [if_neg hi0] at HT2
      replace HT := Lib.hid HT2
      clear HT2
      have hle : (l == []) = false := by rw [beq_eq_false_iff_ne]; intro e; rw [e] at hll; simp at hll; omega
      have hle2 : l.isEmpty = false := by simpa using hle
      go_wp2_with (fail)
      refine (rend_any s n wr hs hn _ HE.out).mono ?_
      rintro e w1 ⟨rfl, rfl⟩
      go_wp2_with (fail)
      have HLLN := Lib.hid hll
      clear hll
      go_loop [11] (fun v => ∃ k : Nat, v = I k ∧ k ≤ l.length ∧ ∀ m, m < k → byteAt l m ≠ 58) (fun v => l.length - (intOf v).toNat)
      case atStart => exact ⟨0, rfl, by omega, fun m hm => by omega⟩
      case round =>
        obtain ⟨k, rfl, hkl, hno⟩ := hrel
        have HNO := Lib.hid hno
        clear hno
        have hkl' : (k : Int) ≤ l.length := by omega
        have hlb : (l.length : Int) ≤ 256 := by omega
        have hgo : k = l.length ∨ byteAt l k = 58 ∨ (k < l.length ∧ byteAt l k ≠ 58) := by
          by_cases h1 : k = l.length
          · exact .inl h1
          · by_cases h2 : byteAt l k = 58
            · exact .inr (.inl h2)
            · exact .inr (.inr ⟨by omega, h2⟩)
        rcases hgo with hke | h58 | ⟨hkl2, h58⟩
        · have hkn := nameL_at l k hkl HNO.out (.inl hke)
          have HF : Hid (r = .fail 170) := Lib.hid (by
            rw [← HL.out.2.2, HT.out]
            unfold fieldF; rw [if_pos (.inl (by rw [hkn, hke]))])
          subst hke
          go_wp2_with (fail)
          exact rfail_end HK.out.1 HK.out.2.2 HF.out rfl rfl rfl rfl
        · by_cases hke : k = l.length
          · exfalso
            have : byteAt l k = 0 := by unfold byteAt; rw [List.getD_eq_getElem?_getD, List.getElem?_eq_none (by omega)]; rfl
            rw [this] at h58; cases h58
          have hkl2 : (k : Int) < l.length := by omega
          have hkn := nameL_at l k hkl HNO.out (.inr h58)
          have hnt : nameL l = l.take k := by rw [← nameL_take, hkn]
          have h58' : ((byteAt l k).toNat : Int) = 58 := by rw [h58]; rfl
          have hne : ((k : Int) == l.length) = false := by rw [beq_eq_false_iff_ne]; omega
          obtain ⟨b1, hb1⟩ : ∃ b, tokB (l.take k) = b := ⟨_, rfl⟩
          obtain ⟨b2, hb2⟩ : ∃ b, textB (l.drop (k + 1)) = b := ⟨_, rfl⟩
          have HFD : Hid (fieldF l h (x + 2) = if b1 = false ∨ b2 = false then .fail 170 else if 32 ≤ h.ns.length then .fail 171 else .on ⟨h.st, h.ns ++ [lowL (l.take k)], h.vs ++ [trimF (l.drop (k + 1))]⟩ (x + 2)) := Lib.hid (by
            unfold fieldF
            rw [hkn, hnt, hb1, hb2]
            by_cases hb : b1 = false ∨ b2 = false
            · rw [if_pos (.inr hb), if_pos hb]
            · rw [if_neg hb, if_neg (fun y => y.elim (fun z => hke z) hb)])
          have HB1 := Lib.hid hb1
          have HB2 := Lib.hid hb2
          have e1 : ((k : Int) + 1).toNat = k + 1 := by omega
          have e2 : (0 : Int) ≤ (k : Int) + 1 := by omega
          have e3 : (k : Int) + 1 ≤ l.length := by omega
          clear hb1 hb2 hkn hnt h58 hke
          go_wp2_with (fail)
          refine (rtoken_any (l.take k) wr (by simp; omega)).mono ?_
          rw [HB1.out]
          rintro e w1 ⟨rfl, k1⟩
          have H1 : Hid (Blk w1 w.heap.size #[I 0, nilV, nilV] HdT ∧ PA (w.heap.size + 1 + 1) w1 (w.heap.size + 1) #[I h.st, .slice p1 h.ns.length q1, .slice p2 h.vs.length q2] (.slice p1 h.ns.length q1) h.ns (.slice p2 h.vs.length q2) h.vs ∧ Kept [] w w1) := Lib.hid ⟨HK.out.1.kept k1 (by simp), HK.out.2.1.kept k1, HK.out.2.2.trans' k1⟩
          clear k1 c00 c01 c02 c10 c11 c12 f00 f01 f02 f10 f11 f12 hlt0 hlt1
          obtain ⟨c00, c01, c02⟩ := cells3 H1.out.1
          have f00 := H1.out.1.free 0
          have f01 := H1.out.1.free 1
          have f02 := H1.out.1.free 2
          obtain ⟨c10, c11, c12⟩ := H1.out.2.1.cells
          have f11 := H1.out.2.1.free 1
          have f12 := H1.out.2.1.free 2
          have hlt0 : w.heap.size < w1.heap.size := lt_of_block H1.out.1
          have hlt1 := H1.out.2.1.hlt
          cases b1 with
          | false =>
            have HF : Hid (r = .fail 170) := Lib.hid (by rw [← HL.out.2.2, HT.out, HFD.out]; rfl)
            go_wp2_with (fail)
            exact rfail_end H1.out.1 H1.out.2.2 HF.out rfl rfl rfl rfl
          | true =>
          go_wp2_with (fail)
          refine (ok_any (l.drop (k + 1)) w1 (by simp; omega)).mono ?_
          rw [HB2.out]
          rintro e w2 ⟨rfl, rfl⟩
          cases b2 with
          | false =>
            have HF : Hid (r = .fail 170) := Lib.hid (by rw [← HL.out.2.2, HT.out, HFD.out]; rfl)
            go_wp2_with (fail)
            exact rfail_end H1.out.1 H1.out.2.2 HF.out rfl rfl rfl rfl
          | true =>
          by_cases h32 : 32 ≤ h.ns.length
          · have HF : Hid (r = .fail 171) := Lib.hid (by rw [← HL.out.2.2, HT.out, HFD.out, if_neg (by simp), if_pos h32])
            have h32' : (h.ns.length : Int) ≥ 32 := by omega
            go_wp2_with (fail)
            exact rfail_end H1.out.1 H1.out.2.2 HF.out rfl rfl rfl rfl
          have h32' : ¬ (h.ns.length : Int) ≥ 32 := by omega
          have HF : Hid (runF s (2999 - j) ⟨h.st, h.ns ++ [lowL (l.take k)], h.vs ++ [trimF (l.drop (k + 1))]⟩ (x + 2) = r) := Lib.hid (by rw [← HL.out.2.2, HT.out, HFD.out, if_neg (by simp), if_neg h32])
          obtain ⟨y, hy⟩ : ∃ y, lowL (l.take k) = y := ⟨_, rfl⟩
          obtain ⟨z, hz⟩ : ∃ z, trimF (l.drop (k + 1)) = z := ⟨_, rfl⟩
          have HSm : Hid (∀ w, Calls Tryz.prog 69 #[S (l.take k)] w fun e w' => e = .returned (S y) ∧ Kept [] w w') := Lib.hid fun w => by rw [← hy]; exact small_any _ w (by simp; omega)
          have HTr : Hid (∀ w, Calls Tryz.prog 70 #[S (l.drop (k + 1))] w fun e w' => e = .returned (S z) ∧ Kept [] w w') := Lib.hid fun w => by rw [← hz]; exact (rtrim_any _ w (by simp; omega) _ rfl).mono fun _ _ h => ⟨h.1, h.2 ▸ Kept.refl _ _⟩
          rw [hy, hz] at HF
          have HV2 : Hid (h.ns.length < 32 ∧ h.vs.length < 32) := Lib.hid ⟨by omega, by have := HL.out.2.1; omega⟩
          clear hy hz
          obtain ⟨i0, hi, hz0, hz1, hz2⟩ := info_parts str_info
          go_upto_region 31 with (fail)
          go_cut [] from 114 to 122 (fun wx => ∃ v1', Blk wx w.heap.size #[I 0, nilV, nilV] HdT ∧ PA (w.heap.size + 1 + 1) wx (w.heap.size + 1) #[I h.st, v1', .slice p2 h.vs.length q2] v1' (h.ns ++ [y]) (.slice p2 h.vs.length q2) h.vs ∧ Kept [] w wx)
          case first =>
            go_region_law (first
              | (refine step_append_lies _ (by rfl) (.tmp 115) (.tmp 120) 51 (by rfl) (w.heap.size + 1 + 1) 9 i0 (.string ⟨#[]⟩) 1 16 Tryz.underlying51 hi hz0 hz1 hz2 rfl (by decide) (.slice p1 h.ns.length q1) h.ns.length (h.ns.map S) (by simp [Act.eval, Act.put]) (by exact HP5.out.2.1.o1) ⟨w5.heap.size, 0, none⟩ 1 1 [S y] (by simp [Act.eval, Act.put]) rfl (by exact World.news_of_block (heap_new w5 _)) (S_one [y]) (by decide) (by have := HV2.out.1; unfold maxLen; omega) (by have := HV2.out.1; omega) (by have := HP5.out.2.1.hlt; omega) _ rfl ?_
                 intro g cap wa own1 gr1 hat hlt
                 have HA := Lib.hid (And.intro (HP5.out.1.grown gr1 (fun e => by have := (HP5.out.2.1.o1.lt w.heap.size e).1; omega)) (And.intro (HP5.out.2.1.app1 own1 gr1 hat) (HP5.out.2.2.grown gr1 (fun q e => by have := (HP5.out.2.1.o1.lt q e).1; omega))))
                 obtain ⟨_, za1, _⟩ := HA.out.2.1.cells
                 have zf1 := HA.out.2.1.free 1
                 clear own1 gr1 hat hlt)
              | (go_simp
                 go_at_call 69
                 (with_reducible refine (HSm.out _).mono ?_)
                 rintro r w5 ⟨rfl, k5⟩
                 have HP4 := Lib.hid (And.intro ((H1.out.1.kept ((Kept.refl [] w1).drew) (by simp)).kept k5 (by simp)) (And.intro ((H1.out.2.1.kept ((Kept.refl [] w1).drew)).kept k5) ((H1.out.2.2.drew).trans' k5)))
                 have HP5 := Lib.hid (And.intro (HP4.out.1.alloc (.cells #[S y] 9)) (And.intro (HP4.out.2.1.kept ((Kept.refl [] w5).alloc (.cells #[S y] 9))) (HP4.out.2.2.alloc (.cells #[S y] 9))))
                 obtain ⟨_, zc1, _⟩ := HP4.out.2.1.cells
                 obtain ⟨_, zd1, _⟩ := HP5.out.2.1.cells
                 have zl := HP4.out.2.1.hlt
                 clear k5))
            all_goals
              go_wp2
              go_meet
              exact ⟨_, HA.out.1.other _ _ _ (by omega), HA.out.2.1.set 1 _, HA.out.2.2.setCell (.inr (by simp)) _⟩
          case rest =>
            obtain ⟨v1', hb6, hp6, hk6⟩ := hcut
            have hwr : IntKind.i64.wrap ((k : Int) + 1) = (k : Int) + 1 := IntWalk.i64_in _ (by omega)
            obtain ⟨p3, q3, rfl⟩ := hp6.o1.form
            have H6 := Lib.hid (And.intro hb6 (And.intro hp6 hk6))
            clear c00 c01 c02 c10 c11 c12 f00 f01 f02 f11 f12 hlt0 hlt1
            obtain ⟨c10, c11, c12⟩ := hp6.cells
            have f12 := hp6.free 2
            have hlt1 := hp6.hlt
            clear hb6 hp6 hk6
            go_wp2_with (fail)
            go_region_law (first
              | (refine step_append_lies _ (by rfl) (.tmp 124) (.tmp 130) 51 (by rfl) (w.heap.size + 1 + 1) 9 i0 (.string ⟨#[]⟩) 1 16 Tryz.underlying51 hi hz0 hz1 hz2 rfl (by decide) (.slice p2 h.vs.length q2) h.vs.length (h.vs.map S) (by simp [Act.eval, Act.put]) (by exact HP5.out.2.1.o2) ⟨w5.heap.size, 0, none⟩ 1 1 [S z] (by simp [Act.eval, Act.put]) rfl (by exact World.news_of_block (heap_new w5 _)) (S_one [z]) (by decide) (by have := HV2.out.2; unfold maxLen; omega) (by have := HV2.out.2; omega) (by have := HP5.out.2.1.hlt; omega) _ rfl ?_
                 intro g cap wa own1 gr1 hat hlt
                 have HA := Lib.hid (And.intro (HP5.out.1.grown gr1 (fun e => by have := (HP5.out.2.1.o2.lt w.heap.size e).1; omega)) (And.intro (HP5.out.2.1.app2 own1 gr1 hat) (HP5.out.2.2.grown gr1 (fun q e => by have := (HP5.out.2.1.o2.lt q e).1; omega))))
                 obtain ⟨_, _, za1⟩ := HA.out.2.1.cells
                 have zf1 := HA.out.2.1.free 2
                 clear own1 gr1 hat hlt)
              | (go_simp
                 go_at_call 70
                 (with_reducible refine (HTr.out _).mono ?_)
                 rintro r w5 ⟨rfl, k5⟩
                 have HP4 := Lib.hid (And.intro ((H6.out.1.kept ((Kept.refl [] wc).drew) (by simp)).kept k5 (by simp)) (And.intro ((H6.out.2.1.kept ((Kept.refl [] wc).drew)).kept k5) ((H6.out.2.2.drew).trans' k5)))
                 have HP5 := Lib.hid (And.intro (HP4.out.1.alloc (.cells #[S z] 9)) (And.intro (HP4.out.2.1.kept ((Kept.refl [] w5).alloc (.cells #[S z] 9))) (HP4.out.2.2.alloc (.cells #[S z] 9))))
                 obtain ⟨_, _, zc1⟩ := HP4.out.2.1.cells
                 obtain ⟨_, _, zd1⟩ := HP5.out.2.1.cells
                 have zl := HP4.out.2.1.hlt
                 clear k5))
            all_goals
              go_wp2
              go_roundw
              case rel => exact ⟨x + 2, j + 1, ⟨h.st, h.ns ++ [y], h.vs ++ [z]⟩, _, _, by go_num, by go_num, by omega, by omega, by omega, (by have := HV2.out.1; simp; omega), (by have := HL.out.2.1; simp; omega), (by rw [show 3000 - (j + 1) = 2999 - j by omega]; exact HF.out), HA.out.1.other _ _ _ (by omega), HA.out.2.1.set 2 _, HA.out.2.2.setCell (.inr (by simp)) _⟩
              case measure => (simp [intOf]; omega)
        · have hkl2' : (k : Int) < l.length := by omega
          have h58' : (((byteAt l k).toNat : Int) != 58) = true := by rw [bne_iff_ne]; intro e; exact h58 (UInt8.toNat.inj (by show (byteAt l k).toNat = 58; omega))
          go_wp2_with (fail)
          go_round
          case rel =>
            refine ⟨k + 1, by go_num, by omega, fun m hm => ?_⟩
            rcases Nat.lt_or_ge m k with h | h
            · exact HNO.out m h
            · rw [show m = k by omega]; exact h58
          case measure => simp [intOf]; omega
end Go.Proofs.YtgdncdhalnijcaaGreatDoor
