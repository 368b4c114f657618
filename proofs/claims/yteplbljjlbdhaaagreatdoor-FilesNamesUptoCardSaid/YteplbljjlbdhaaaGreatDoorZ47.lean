/- Walks and lemmas on the program of this seat, used by its statements; each theorem bears its own conditions. -/
import Derived.Test.YteplbljjlbdhaaaGreatDoorZ46
namespace Go.Proofs.YteplbljjlbdhaaaGreatDoor
open Go.RowKit
set_option linter.unusedVariables false
set_option linter.unusedSimpArgs false
set_option linter.unusedSectionVars false
set_option maxHeartbeats 16000000
set_option maxRecDepth 100000
theorem ren_text {p q r : List Nm} (hp : p ≠ []) (hq : q ≠ []) : pathT q ++ (pathT (p ++ r)).drop (pathT p).length = pathT (q ++ r) := by
 unfold pathT
 rw [if_neg hp, if_neg hq, if_neg (fun h => hp (List.append_eq_nil_iff.1 h).1), if_neg (fun h => hq (List.append_eq_nil_iff.1 h).1), slashed_app, slashed_app, List.drop_left]
theorem ren_cond {y p : List Nm} (h : y ≠ p) : p.isPrefixOf y = belowB y p := by
 rw [Bool.eq_iff_iff, pre_iff, belowB_iff]
 constructor
 ·rintro ⟨r, hr⟩
  exact ⟨r, fun e => h (by rw [hr, e, List.append_nil]), hr⟩
 ·rintro ⟨r, _, hr⟩; exact ⟨r, hr⟩
theorem rrename_any (w : World) (mb n given : Nat) (v : Value) (E : List Nd) (h : DF w mb n given v E) (s t : List UInt8) (hs : s.length ≤ 1048576) (ht : t.length ≤ 1048576) :
    Calls Tryz.prog 20 #[Ptr mb, S s, S t] w (RDP w mb n v (renameF n given E s t)) := by
  have HI := Lib.hid (rispath_any s hs w)
  have HI2 := Lib.hid (fun W => rispath_any t ht W)
  have H := Lib.hid h
  obtain ⟨i0, hi, hz0, hz1, hz2⟩ := info_parts ed_info
  have HIN := Lib.hid (And.intro hi (And.intro hz0 (And.intro hz1 hz2)))
  obtain ⟨R, hR⟩ : ∃ R, renameF n given E s t = R := ⟨_, rfl⟩
  have HR := Lib.hid hR
  rw [hR]
  clear hi hz0 hz1 hz2
  cases hp : WX.pathF s with
  | none =>
    rw [hp] at HI
    have HE : Hid (R = (160, given, E)) := Lib.hid (by rw [← HR.out]; unfold renameF; rw [hp])
    clear h hR hp hs ht
    go_enter Tryz.func20, Tryz.ntmps20
    go_wp2_with (fail)
    refine HI.out.mono ?_
    rintro e w1 ⟨rfl, k1⟩
    have K1 := Lib.hid k1
    clear k1
    go_wp2_with (fail)
    go_ret
    rw [HE.out]
    exact RDP.no H.out.at' K1.out 160
  | some p =>
  rw [hp] at HI
  cases hq : WX.pathF t with
  | none =>
    rw [hq] at HI2
    have HE : Hid (R = (160, given, E)) := Lib.hid (by rw [← HR.out]; unfold renameF; rw [hp, hq])
    clear h hR hp hq hs ht
    go_enter Tryz.func20, Tryz.ntmps20
    go_wp2_with (fail)
    refine HI.out.mono ?_
    rintro e w1 ⟨rfl, k1⟩
    have K1 := Lib.hid k1
    clear k1
    go_wp2_with (fail)
    refine (HI2.out w1).mono ?_
    rintro e w2 ⟨rfl, k2⟩
    have K2 := Lib.hid (K1.out.trans' k2)
    clear k2
    go_wp2_with (fail)
    go_ret
    rw [HE.out]
    exact RDP.no H.out.at' K2.out 160
  | some q =>
  rw [hq] at HI2
  obtain ⟨hsp, hpv⟩ := pathT_of hp
  obtain ⟨htq, hqv⟩ := pathT_of hq
  have hrt := pathT_root hpv
  rw [← hsp] at hrt
  have hrq := pathT_root hqv
  rw [← htq] at hrq
  have HS := Lib.hid (And.intro hsp (And.intro hpv (And.intro htq hqv)))
  have HMK : Hid (R = if p = [] then (164, given, E) else if findF E [] p ≠ 0 then (((findF E [] p : Nat) : Int), given, E) else if p.length < q.length ∧ q.take p.length = p then (164, given, E) else if q = [] then (162, given, E) else if findF E [] q.dropLast ≠ 0 then (((findF E [] q.dropLast : Nat) : Int), given, E) else if isDirP E q.dropLast = false then (163, given, E) else if (ent E q).isSome = true then (162, given, E) else if ((kids E q.dropLast).length = 6 ∧ p.dropLast ≠ q.dropLast) ∨ 8 < q.length + depthF E p then (165, given, E) else tryF n given E given (renE E p q)) := Lib.hid (by rw [← HR.out]; unfold renameF; rw [hp, hq])
  have hsl := pathT_len hpv
  have htl := pathT_len hqv
  rw [← hsp] at hsl
  rw [← htq] at htl
  have hslI : (s.length : Int) ≤ 201 := by omega
  have htlI : (t.length : Int) ≤ 201 := by omega
  by_cases hpn : p = []
  · rw [decide_eq_true hpn] at hrt
    have HE : Hid (R = (164, given, E)) := Lib.hid (by rw [HMK.out, if_pos hpn])
    clear h hR hp hq hs ht hsp hpv htq hqv hpn hrq hsl htl
    go_enter Tryz.func20, Tryz.ntmps20
    go_wp2_with (fail)
    refine HI.out.mono ?_
    rintro e w1 ⟨rfl, k1⟩
    have K1 := Lib.hid k1
    clear k1
    go_wp2_with (fail)
    refine (HI2.out w1).mono ?_
    rintro e w2 ⟨rfl, k2⟩
    have K2 := Lib.hid (K1.out.trans' k2)
    clear k2
    go_wp2_with (fail)
    go_ret
    rw [HE.out]
    exact RDP.no H.out.at' K2.out 164
  rw [decide_eq_false hpn] at hrt
  have HF := Lib.hid (fun W (k : Kept [] w W) => rfind_any (h.at'.same k) (by have := h.few; omega) h.wf p hpv)
  have HBL := Lib.hid (fun W => rbelow_any q p hpv hqv hpn W)
  rw [← hsp] at HF HBL
  rw [← htq] at HBL
  have hbel : belowB q p = decide (p.length < q.length ∧ q.take p.length = p) := by
    rw [Bool.eq_iff_iff, belowB_iff, decide_eq_true_eq]
    constructor
    · rintro ⟨r, hr, e⟩
      have := List.length_pos_iff.2 hr
      exact ⟨by rw [e, List.length_append]; omega, by rw [e, List.take_left]⟩
    · rintro ⟨h1, h2⟩
      refine ⟨q.drop p.length, ?_, ?_⟩
      · intro e; have := congrArg List.length e; rw [List.length_drop] at this; simp at this; omega
      · have := List.take_append_drop p.length q
        rw [h2] at this
        exact this.symm
  obtain ⟨z, hz⟩ : ∃ z, findF E [] p = z := ⟨_, rfl⟩
  rw [hz] at HF
  have HMK2 : Hid (R = if z ≠ 0 then ((z : Int), given, E) else if belowB q p = true then (164, given, E) else if q = [] then (162, given, E) else if froomF E q ≠ 0 then (froomF E q, given, E) else if ((kids E q.dropLast).length = 6 ∧ p.dropLast ≠ q.dropLast) ∨ 8 < q.length + depthF E p then (165, given, E) else tryF n given E given (renE E p q)) := Lib.hid (by
    rw [HMK.out, if_neg hpn, hz, ← room_if E q (fun r => (r, given, E)), hbel]
    by_cases hc : p.length < q.length ∧ q.take p.length = p <;> simp [hc])
  obtain ⟨bb, hbb⟩ : ∃ bb, belowB q p = bb := ⟨_, rfl⟩
  rw [hbb] at HBL HMK2
  have HBB := Lib.hid (And.intro hbb (And.intro hpn hz))
  obtain ⟨c0, c1, c2⟩ := h.at'.cells
  have hat := h.at'.2
  obtain ⟨lp, lc, lb, rfl, hcap, hlp, hcells⟩ := hat
  have HC := Lib.hid (And.intro c0 (And.intro c1 (And.intro c2 (And.intro hlp hcells))))
  have hEI : (E.length : Int) ≤ 900 := by have := h.few; omega
  clear h hR hp hq hs ht hsp hpv htq hqv hpn hsl htl hbel hz hbb c0 c1 c2 hcap hlp hcells
  go_enter Tryz.func20, Tryz.ntmps20
  go_wp2_with (fail)
  refine HI.out.mono ?_
  rintro e w1 ⟨rfl, k1⟩
  have K1 := Lib.hid k1
  clear k1
  go_wp2_with (fail)
  refine (HI2.out w1).mono ?_
  rintro e w2 ⟨rfl, k2⟩
  have K2 := Lib.hid (K1.out.trans' k2)
  clear k2
  go_wp2_with (fail)
  refine (HF.out w2 K2.out).mono ?_
  rintro e w3 ⟨rfl, k3⟩
  have K3 := Lib.hid (K2.out.trans' k3)
  clear k3
  by_cases hz : z = 0
  case neg =>
    have hzb : ((z : Int) != 0) = true := by simpa using hz
    have HE : Hid (R = ((z : Int), given, E)) := Lib.hid (by rw [HMK2.out, if_pos hz])
    clear hz
    go_wp2_with (fail)
    go_ret
    rw [HE.out]
    exact RDP.no H.out.at' K3.out z
  case pos =>
  subst hz
  go_wp2_with (fail)
  refine (HBL.out w3).mono ?_
  rintro e w4 ⟨rfl, hw4⟩
  replace hw4 := hw4.symm
  subst hw4
  cases bb with
  | true =>
    have HE : Hid (R = (164, given, E)) := Lib.hid (by rw [HMK2.out, if_neg (by simp), if_pos rfl])
    go_wp2_with (fail)
    go_ret
    rw [HE.out]
    exact RDP.no H.out.at' K3.out 164
  | false =>
  have HMK3 : Hid (R = if q = [] then (162, given, E) else if froomF E q ≠ 0 then (froomF E q, given, E) else if ((kids E q.dropLast).length = 6 ∧ p.dropLast ≠ q.dropLast) ∨ 8 < q.length + depthF E p then (165, given, E) else tryF n given E given (renE E p q)) := Lib.hid (by rw [HMK2.out, if_neg (by simp), if_neg (by simp)])
  by_cases hqn : q = []
  · rw [decide_eq_true hqn] at hrq
    have HE : Hid (R = (162, given, E)) := Lib.hid (by rw [HMK3.out, if_pos hqn])
    clear hqn
    go_wp2_with (fail)
    go_ret
    rw [HE.out]
    exact RDP.no H.out.at' K3.out 162
  rw [decide_eq_false hqn] at hrq
  obtain ⟨ro, hro⟩ : ∃ ro, froomF E q = ro := ⟨_, rfl⟩
  have HRO := Lib.hid (rroom_any w3 mb n given given _ E (H.out.at'.same K3.out) (by have := H.out.few; omega) H.out.wf q HS.out.2.2.2 hqn)
  have HUQ := Lib.hid (fun W => rup_any q HS.out.2.2.2 hqn W)
  have HUP := Lib.hid (fun W => rup_any p HS.out.2.1 HBB.out.2.1 W)
  have HNM := Lib.hid (fun W (k : Kept [] w W) => rnames_any W mb n given given _ E (H.out.at'.same k) (by have := H.out.few; omega) H.out.wf q.dropLast HS.out.2.2.2.front)
  have heq := pathT_eq HS.out.2.2.2.front HS.out.2.1.front
  rw [← HS.out.2.2.1] at HRO HUQ
  rw [← HS.out.1] at HUP
  obtain ⟨tq, htq⟩ : ∃ tq, pathT q.dropLast = tq := ⟨_, rfl⟩
  obtain ⟨tp, htp⟩ : ∃ tp, pathT p.dropLast = tp := ⟨_, rfl⟩
  rw [htq] at HUQ HNM heq
  rw [htp] at HUP heq
  rw [hro] at HRO
  have HQN := Lib.hid (And.intro hqn (And.intro hro heq))
  have HMK4 : Hid (R = if ro ≠ 0 then (ro, given, E) else if ((kids E q.dropLast).length = 6 ∧ p.dropLast ≠ q.dropLast) ∨ 8 < q.length + depthF E p then (165, given, E) else tryF n given E given (renE E p q)) := Lib.hid (by rw [HMK3.out, if_neg hqn, hro])
  clear hqn hro htq htp heq
  go_wp2_with (fail)
  refine HRO.out.mono ?_
  rintro e w4 ⟨rfl, k4⟩
  have K4 := Lib.hid (K3.out.trans' k4)
  clear k4
  by_cases hz : ro = 0
  case neg =>
    have hzb : (ro != 0) = true := by simpa using hz
    have HE : Hid (R = (ro, given, E)) := Lib.hid (by rw [HMK4.out, if_pos hz])
    clear hz
    go_wp2_with (fail)
    go_ret
    rw [HE.out]
    exact RDP.no H.out.at' K4.out ro
  case pos =>
  subst hz
  have HMK5 : Hid (R = if ((kids E q.dropLast).length = 6 ∧ p.dropLast ≠ q.dropLast) ∨ 8 < q.length + depthF E p then (165, given, E) else tryF n given E given (renE E p q)) := Lib.hid (by rw [HMK4.out, if_neg (by simp)])
  go_wp2_with (fail)
  refine (HUQ.out w4).mono ?_
  rintro e w5 ⟨rfl, k5⟩
  have K5 := Lib.hid (K4.out.trans' k5)
  clear k5
  go_wp2_with (fail)
  refine (HUP.out w5).mono ?_
  rintro e w6 ⟨rfl, k6⟩
  have K6 := Lib.hid (K5.out.trans' k6)
  clear k6
  obtain ⟨kl, hkl⟩ : ∃ kl, kids E q.dropLast = kl := ⟨_, rfl⟩
  have hk6 := H.out.wf.few q.dropLast
  rw [hkl] at HNM hk6
  have HKL := Lib.hid (And.intro hkl hk6)
  have hk6I : (kl.length : Int) ≤ 6 := by omega
  clear hkl hk6
  go_upto_region 17 with (fail)
  go_cut [61] from 53 to 61 (fun v61 wx => ∃ bb : Bool, v61 = .bool bb ∧ bb = decide (kl.length = 6 ∧ p.dropLast ≠ q.dropLast) ∧ Kept [] w6 wx)
  case first =>
    go_wp2_with (fail)
    refine (HNM.out w6 K6.out).mono ?_
    rintro e w0 ⟨⟨lv, rfl, hlv⟩, k7⟩
    obtain ⟨ap, ac, rfl⟩ : ∃ ap ac, lv = .slice ap kl.length ac := by obtain ⟨a, b, c, _⟩ := hlv; rw [List.length_map] at c; exact ⟨a, b, c⟩
    have K7 := Lib.hid k7
    clear hlv k7
    by_cases c6 : kl.length = 6
    · have c6I : (6 : Int) ≤ kl.length := by omega
      by_cases he : q.dropLast = p.dropLast
      · have heq2 : (tq == tp) = true := by rw [HQN.out.2.2]; exact decide_eq_true he
        have HB : Hid (decide (kl.length = 6 ∧ p.dropLast ≠ q.dropLast) = false) := Lib.hid (decide_eq_false (fun hh => hh.2 he.symm))
        clear c6 he
        go_wp2_with (fail)
        go_meet
        exact ⟨_, rfl, HB.out.symm, K7.out⟩
      · have heq2 : (tq == tp) = false := by rw [HQN.out.2.2]; exact decide_eq_false he
        have HB : Hid (decide (kl.length = 6 ∧ p.dropLast ≠ q.dropLast) = true) := Lib.hid (decide_eq_true ⟨c6, fun e => he e.symm⟩)
        clear c6 he
        go_wp2_with (fail)
        go_meet
        exact ⟨_, rfl, HB.out.symm, K7.out⟩
    · have c6I : ¬ (6 : Int) ≤ kl.length := by omega
      have HB : Hid (decide (kl.length = 6 ∧ p.dropLast ≠ q.dropLast) = false) := Lib.hid (decide_eq_false (fun hh => c6 hh.1))
      clear c6
      go_wp2_with (fail)
      go_meet
      exact ⟨_, rfl, HB.out.symm, K7.out⟩
  case rest =>
  obtain ⟨bq, rfl, hbq, kc⟩ := hcut
  have K0 := Lib.hid (K6.out.trans' kc)
  clear kc
  by_cases h6 : kl.length = 6 ∧ p.dropLast ≠ q.dropLast
  · obtain rfl : bq = true := by rw [hbq]; exact decide_eq_true h6
    have HE : Hid (R = (165, given, E)) := Lib.hid (by rw [HMK5.out, HKL.out.1, if_pos (.inl h6)])
    clear h6 hbq
    go_wp2_with (fail)
    go_ret
    rw [HE.out]
    exact RDP.no H.out.at' K0.out 165
  obtain rfl : bq = false := by rw [hbq]; exact decide_eq_false h6
  clear hbq
  have HMK6 : Hid (R = if 8 < q.length + depthF E p then (165, given, E) else tryF n given E given (renE E p q)) := Lib.hid (by
    rw [HMK5.out, HKL.out.1]
    by_cases h9 : 8 < q.length + depthF E p
    · rw [if_pos (.inr h9), if_pos h9]
    · rw [if_neg (fun hh => hh.elim h6 h9), if_neg h9])
  have y0 := K0.out.cellOf HC.out.1
  have y1 := K0.out.cellOf HC.out.2.1
  have y2 := K0.out.cellOf HC.out.2.2.1
  have HY := Lib.hid (And.intro y0 (And.intro y1 (And.intro y2 h6)))
  have hO : EDOwn (wc.alloc (Obj.cells #[] 85)) wc.heap.size (.slice (some ⟨wc.heap.size, 0, none⟩) 0 0) [] := ⟨rfl, .inr ⟨wc.heap.size, 0, #[], rfl, Nat.le_refl _, heap_new wc _, Nat.le_refl _, Nat.zero_le _, rfl, rfl⟩⟩
  have HO := Lib.hid hO
  clear y0 y1 y2 hO h6
  go_wp2_with (fail)
  go_loopw [12, 13] (fun v12 v13 wr => ∃ (k g c : Nat) (l : List Nd), k ≤ E.length ∧ v13 = I k ∧ v12 = .slice (some ⟨g, 0, none⟩) l.length c ∧ l.length ≤ k ∧ l = (E.take k).map (renX p q) ∧ (∀ j (hj : j < E.length), j < k → ∀ r, E[j].path = p ++ r → q.length + r.length ≤ 8) ∧ EDOwn wr wc.heap.size (.slice (some ⟨g, 0, none⟩) l.length c) l ∧ Kept [] wc wr) (fun _ v13 _ => E.length - (intOf v13).toNat)
  case atStart => exact ⟨0, wc.heap.size, 0, [], by omega, rfl, rfl, by simp, rfl, fun j _ hj => by omega, HO.out, (Kept.refl _ _).alloc _⟩
  case round =>
    obtain ⟨k, g, c, l, hk, rfl, rfl, hlk, hll, hno, own, kr⟩ := hrel
    have y0 := kr.cellOf HY.out.1
    have y1 := kr.cellOf HY.out.2.1
    have y2 := kr.cellOf HY.out.2.2.1
    have hlI : (l.length : Int) ≤ 900 := by omega
    obtain ⟨hi, hz0, hz1, hz2⟩ := HIN.out
    by_cases hlt : k < E.length
    · have hltI : (k : Int) < E.length := by omega
      obtain ⟨-, -, -, hlp, hcells⟩ := HC.out
      have hpe := hlp (by intro h; rw [h] at hlt; simp at hlt)
      subst hpe
      obtain ⟨d0, d1, d2⟩ := hcells k hlt
      have f0 := (K0.out.trans' kr).cellOf d0
      have f1 := (K0.out.trans' kr).cellOf d1
      have f2 := (K0.out.trans' kr).cellOf d2
      have hyv := H.out.wf.pv (List.getElem_mem hlt)
      have hq := pathT_eq hyv HS.out.2.1
      rw [← HS.out.1] at hq
      have htk : (E.take (k + 1)).map (renX p q) = l ++ [renX p q E[k]] := by
        rw [List.take_add_one, List.getElem?_eq_getElem hlt, List.map_append, hll]; rfl
      have hnn : (∀ r, E[k].path = p ++ r → q.length + r.length ≤ 8) → ∀ j (hj : j < E.length), j < k + 1 → ∀ r, E[j].path = p ++ r → q.length + r.length ≤ 8 := fun hh j hj hjk => by
        by_cases hjk2 : j < k
        · exact hno j hj hjk2
        · have : j = k := by omega
          subst this
          exact hh
      have hdl : ∀ r, E[k].path = p ++ r → r.length ≤ depthF E p := fun r hr => depth_le (List.getElem_mem hlt) hr
      obtain ⟨y, hy⟩ : ∃ y, E[k] = y := ⟨_, rfl⟩
      rw [hy] at f0 f1 f2 hq htk hnn hyv hdl
      have HBY := Lib.hid (fun W => rbelow_any y.path p HS.out.2.1 hyv HBB.out.2.1 W)
      rw [← HS.out.1] at HBY
      have hytl := pathT_len hyv
      have hzz : edCells [renX p q y] = [S (pathT (renP p q y.path)), .bool y.dir, S y.data] := rfl
      have HTY := Lib.hid (fun r (hr : y.path = p ++ r) => (by
        have := ren_text (r := r) HBB.out.2.1 HQN.out.1
        rw [← HS.out.1, ← HS.out.2.2.1, ← hr] at this
        exact this : t ++ (pathT y.path).drop s.length = pathT (q ++ r)))
      obtain ⟨yt, hyt⟩ : ∃ yt, pathT y.path = yt := ⟨_, rfl⟩
      obtain ⟨yd, hyd⟩ : ∃ yd, y.dir = yd := ⟨_, rfl⟩
      obtain ⟨yb, hyb⟩ : ∃ yb, y.data = yb := ⟨_, rfl⟩
      rw [hyt] at f0 hq HBY hytl HTY
      rw [hyd] at f1 hzz
      rw [hyb] at f2 hzz
      have hytI : (yt.length : Int) ≤ 201 := by omega
      have HJ := Lib.hid (And.intro own (And.intro kr (And.intro hll (And.intro hlk (And.intro hno htk)))))
      have HN2 := Lib.hid (And.intro hnn (And.intro hyv (And.intro hdl (And.intro hzz hyt))))
      obtain ⟨W2, hW2⟩ : ∃ W2, wr.alloc (Obj.cells #[S yt, .bool yd, S yb] 85) = W2 := ⟨_, rfl⟩
      have n2 := heap_new wr (Obj.cells #[S yt, .bool yd, S yb] 85)
      have hk2 := (Kept.refl [] wr).alloc (Obj.cells #[S yt, .bool yd, S yb] 85)
      rw [hW2] at n2 hk2
      have g0 := cell_at n2 0
      have g1 := cell_at n2 1
      have g2' := cell_at n2 2
      have gf := free_at n2
      simp only [List.getElem?_toArray, List.getElem?_cons_zero, List.getElem?_cons_succ] at g0 g1 g2'
      have HW2 := Lib.hid (And.intro n2 hk2)
      clear own kr hll hlk hno htk hlp hcells d0 d1 d2 hy hyt hyd hyb hnn hyv hdl hytl hzz n2 hk2
      by_cases hu : p.isPrefixOf y.path = true
      · obtain ⟨r, hr⟩ := pre_iff.1 hu
        have hyy := HTY.out r hr
        have hcount : (t ++ yt.drop s.length).count 47 = q.length + r.length := by
          rw [hyy]
          unfold pathT
          rw [if_neg (fun h => HQN.out.1 (List.append_eq_nil_iff.1 h).1), count_slashed, List.length_append]
          intro m hm
          rcases List.mem_append.1 hm with hm | hm
          · exact HS.out.2.2.2.no47 m hm
          · exact HN2.out.2.1.no47 m (by rw [hr]; simp [hm])
        have hsy : s.length ≤ yt.length := by
          have e := HN2.out.2.2.2.2
          rw [hr] at e
          rw [← e, HS.out.1]
          unfold pathT
          rw [if_neg HBB.out.2.1, if_neg (fun h => HBB.out.2.1 (List.append_eq_nil_iff.1 h).1), slashed_app, List.length_append]
          omega
        have hsyI : (s.length : Int) ≤ yt.length := by omega
        have hrl : r.length ≤ 8 := by
          have := HN2.out.2.1.1
          rw [hr, List.length_append] at this
          omega
        have HDP := Lib.hid (fun W => rdeep_any (t ++ yt.drop s.length) (by rw [List.length_append, List.length_drop]; omega) W)
        rw [hcount] at HDP
        obtain ⟨dd, hdd⟩ : ∃ dd, q.length + r.length = dd := ⟨_, rfl⟩
        rw [hdd] at HDP
        have hddI : (dd : Int) ≤ 16 := by have := HS.out.2.2.2.1; omega
        have HZ : Hid (edCells [renX p q y] = [S (t ++ yt.drop s.length), .bool yd, S yb]) := Lib.hid (by
          rw [HN2.out.2.2.2.1]
          have : renP p q y.path = q ++ r := by rw [hr, renP_in]
          rw [this, hyy])
        have HQ := Lib.hid (And.intro hr hdd)
        obtain ⟨W3, hW3⟩ : ∃ W3, W2.setCell ⟨wr.heap.size, 0, none⟩ (S (t ++ yt.drop s.length)) = W3 := ⟨_, rfl⟩
        have n3 := heap_setCell_at HW2.out.1 0 (S (t ++ yt.drop s.length))
        rw [hW3] at n3
        have m0 := cell_at n3 0
        have m1 := cell_at n3 1
        have m2 := cell_at n3 2
        simp only [List.setIfInBounds_toArray, List.set_cons_zero, List.getElem?_toArray, List.getElem?_cons_zero, List.getElem?_cons_succ] at m0 m1 m2
        have KW3 : Hid (Kept [] wr W3) := Lib.hid (by rw [← hW3]; exact HW2.out.2.setCell (p := ⟨wr.heap.size, 0, none⟩) (.inr (Nat.le_refl _)) _)
        have hcnd : (yt == s) = true ∨ ((yt == s) = false ∧ belowB y.path p = true) := by
          rw [hq]
          by_cases he : y.path = p
          · exact .inl (decide_eq_true he)
          · exact .inr ⟨decide_eq_false he, by rw [← ren_cond he]; exact hu⟩
        clear hq hr hyy hcount hsy hdd hu n3
        by_cases h8 : 8 < dd
        · have h8I : (8 : Int) < dd := by omega
          have HE : Hid (R = (165, given, E)) := Lib.hid (by
            have := HN2.out.2.2.1 _ HQ.out.1
            rw [HMK6.out, if_pos (by have := HQ.out.2; omega)])
          clear h8
          rcases hcnd with hq1 | ⟨hq1, hq2⟩
          · go_wp2_with (first | (simp only [hW2, hW3]; done) | (simp only [hW2, hW3]))
            refine (HDP.out _).mono ?_
            rintro e w7 ⟨rfl, rfl⟩
            go_wp2_with (fail)
            go_ret
            rw [HE.out]
            exact RDP.no H.out.at' ((K0.out.trans' HJ.out.2.1).trans' KW3.out) 165
          · rw [hq2] at HBY
            go_wp2_with (first | (simp only [hW2, hW3]; done) | (simp only [hW2, hW3]))
            refine (HBY.out _).mono ?_
            rintro e w7 ⟨rfl, rfl⟩
            go_wp2_with (first | (simp only [hW3]; done) | (simp only [hW3]))
            refine (HDP.out _).mono ?_
            rintro e w7 ⟨rfl, rfl⟩
            go_wp2_with (fail)
            go_ret
            rw [HE.out]
            exact RDP.no H.out.at' ((K0.out.trans' HJ.out.2.1).trans' KW3.out) 165
        · have h8I : ¬ (8 : Int) < dd := by omega
          have HNO : Hid (∀ j (hj : j < E.length), j < k + 1 → ∀ r, E[j].path = p ++ r → q.length + r.length ≤ 8) := Lib.hid (HN2.out.1 (fun r' hr' => by
            have := HQ.out.1
            rw [hr'] at this
            have e := List.append_cancel_left this
            rw [e]
            have := HQ.out.2
            omega))
          clear h8
          rcases hcnd with hq1 | ⟨hq1, hq2⟩
          · go_wp2_with (first | (simp only [hW2, hW3]; done) | (simp only [hW2, hW3]))
            refine (HDP.out _).mono ?_
            rintro e w7 ⟨rfl, hw7⟩
            replace hw7 := hw7.symm
            subst hw7
            go_wp2_with (first
              | (at_builtin
                 refine wpList_append_lies _ rfl (.tmp 101) (.tmp 103) 45 rfl wc.heap.size 85 i0 (.agg #[S [], .bool false, S []]) 3 40 Tryz.underlying45 hi hz0 hz1 hz2 rfl (by decide) (.slice (some ⟨g, 0, none⟩) l.length c) l.length (edCells l) rfl (own_kept (T := []) HJ.out.1 (KW3.out.alloc _) (by simp)) ⟨_, 0, none⟩ 1 1 [S (t ++ yt.drop s.length), .bool yd, S yb] rfl rfl (World.news_of_block (heap_new _ _)) (by intro u hu; simp at hu; rcases hu with rfl | rfl | rfl <;> rfl) (by decide) (by unfold maxLen; omega) (by omega) (Nat.le_trans HJ.out.2.1.size (KW3.out.alloc _).size) _ rfl ?_
                 intro g2 cap wa own1 gr1 hat hlt2
                 have HA := Lib.hid (And.intro own1 (((KW3.out.alloc _).mono (by simp)).trans' (kept_grown gr1)))
                 clear own1 gr1 hat hlt2))
            go_roundw
            case rel =>
              obtain ⟨own1, kg⟩ := HA.out
              obtain ⟨own, kr, hll, hlk, hno, htk⟩ := HJ.out
              have hgw : ∀ q, q ∈ (Value.slice (some ⟨g, 0, none⟩) l.length c).ownBlock.toList → wc.heap.size ≤ q := fun q hq => (own_lt own q (Option.mem_toList.1 hq)).1
              refine ⟨k + 1, g2, cap, l ++ [renX p q y], by omega, by go_num, by rw [List.length_append]; rfl, by rw [List.length_append]; simp; omega, htk.symm, HNO.out, ?_, kr.new kg hgw⟩
              unfold EDOwn
              rw [List.length_append, edCells_append, HZ.out]
              exact own1
            case measure => simp [intOf]; omega
          · rw [hq2] at HBY
            go_wp2_with (first | (simp only [hW2, hW3]; done) | (simp only [hW2, hW3]))
            refine (HBY.out _).mono ?_
            rintro e w7 ⟨rfl, hw7⟩
            replace hw7 := hw7.symm
            subst hw7
            go_wp2_with (first | (simp only [hW3]; done) | (simp only [hW3]))
            refine (HDP.out _).mono ?_
            rintro e w7 ⟨rfl, hw7⟩
            replace hw7 := hw7.symm
            subst hw7
            go_wp2_with (first
              | (at_builtin
                 refine wpList_append_lies _ rfl (.tmp 101) (.tmp 103) 45 rfl wc.heap.size 85 i0 (.agg #[S [], .bool false, S []]) 3 40 Tryz.underlying45 hi hz0 hz1 hz2 rfl (by decide) (.slice (some ⟨g, 0, none⟩) l.length c) l.length (edCells l) rfl (own_kept (T := []) HJ.out.1 (KW3.out.alloc _) (by simp)) ⟨_, 0, none⟩ 1 1 [S (t ++ yt.drop s.length), .bool yd, S yb] rfl rfl (World.news_of_block (heap_new _ _)) (by intro u hu; simp at hu; rcases hu with rfl | rfl | rfl <;> rfl) (by decide) (by unfold maxLen; omega) (by omega) (Nat.le_trans HJ.out.2.1.size (KW3.out.alloc _).size) _ rfl ?_
                 intro g2 cap wa own1 gr1 hat hlt2
                 have HA := Lib.hid (And.intro own1 (((KW3.out.alloc _).mono (by simp)).trans' (kept_grown gr1)))
                 clear own1 gr1 hat hlt2))
            go_roundw
            case rel =>
              obtain ⟨own1, kg⟩ := HA.out
              obtain ⟨own, kr, hll, hlk, hno, htk⟩ := HJ.out
              have hgw : ∀ q, q ∈ (Value.slice (some ⟨g, 0, none⟩) l.length c).ownBlock.toList → wc.heap.size ≤ q := fun q hq => (own_lt own q (Option.mem_toList.1 hq)).1
              refine ⟨k + 1, g2, cap, l ++ [renX p q y], by omega, by go_num, by rw [List.length_append]; rfl, by rw [List.length_append]; simp; omega, htk.symm, HNO.out, ?_, kr.new kg hgw⟩
              unfold EDOwn
              rw [List.length_append, edCells_append, HZ.out]
              exact own1
            case measure => simp [intOf]; omega
      · have hne : y.path ≠ p := fun e => hu (by rw [e, pre_iff]; exact ⟨[], by simp⟩)
        have hq1 : (yt == s) = false := by rw [hq]; exact decide_eq_false hne
        have hq2 : belowB y.path p = false := by rw [← ren_cond hne]; exact Bool.eq_false_iff.2 hu
        rw [hq2] at HBY
        have HNO : Hid (∀ j (hj : j < E.length), j < k + 1 → ∀ r, E[j].path = p ++ r → q.length + r.length ≤ 8) := Lib.hid (HN2.out.1 (fun r' hr' => absurd (pre_iff.2 ⟨r', hr'⟩) hu))
        have HZ : Hid (edCells [renX p q y] = [S yt, .bool yd, S yb]) := Lib.hid (by
          rw [HN2.out.2.2.2.1, renP_out (fun h => hu (pre_iff.2 h)), HN2.out.2.2.2.2])
        have KW2 : Hid (Kept [] wr W2) := Lib.hid HW2.out.2
        clear hq hu hne hq2
        go_wp2_with (first | (simp only [hW2]; done) | (simp only [hW2]))
        refine (HBY.out _).mono ?_
        rintro e w7 ⟨rfl, hw7⟩
        replace hw7 := hw7.symm
        subst hw7
        go_wp2_with (first
          | (at_builtin
             refine wpList_append_lies _ rfl (.tmp 101) (.tmp 103) 45 rfl wc.heap.size 85 i0 (.agg #[S [], .bool false, S []]) 3 40 Tryz.underlying45 hi hz0 hz1 hz2 rfl (by decide) (.slice (some ⟨g, 0, none⟩) l.length c) l.length (edCells l) rfl (own_kept (T := []) HJ.out.1 (KW2.out.alloc _) (by simp)) ⟨_, 0, none⟩ 1 1 [S yt, .bool yd, S yb] rfl rfl (World.news_of_block (heap_new _ _)) (by intro u hu; simp at hu; rcases hu with rfl | rfl | rfl <;> rfl) (by decide) (by unfold maxLen; omega) (by omega) (Nat.le_trans HJ.out.2.1.size (KW2.out.alloc _).size) _ rfl ?_
             intro g2 cap wa own1 gr1 hat hlt2
             have HA := Lib.hid (And.intro own1 (((KW2.out.alloc _).mono (by simp)).trans' (kept_grown gr1)))
             clear own1 gr1 hat hlt2))
        go_roundw
        case rel =>
          obtain ⟨own1, kg⟩ := HA.out
          obtain ⟨own, kr, hll, hlk, hno, htk⟩ := HJ.out
          have hgw : ∀ q, q ∈ (Value.slice (some ⟨g, 0, none⟩) l.length c).ownBlock.toList → wc.heap.size ≤ q := fun q hq => (own_lt own q (Option.mem_toList.1 hq)).1
          refine ⟨k + 1, g2, cap, l ++ [renX p q y], by omega, by go_num, by rw [List.length_append]; rfl, by rw [List.length_append]; simp; omega, htk.symm, HNO.out, ?_, kr.new kg hgw⟩
          unfold EDOwn
          rw [List.length_append, edCells_append, HZ.out]
          exact own1
        case measure => simp [intOf]; omega
    · have hke : k = E.length := by omega
      subst hke
      rw [List.take_length] at hll
      have hren : l = renE E p q := hll
      have hp0 := HBB.out.2.1
      obtain ⟨x, hx⟩ : ∃ x, ent E p = some x := by
        have := find_ent E p [] HBB.out.2.2 hp0
        exact Option.isSome_iff_exists.1 this
      obtain ⟨hxE, hxp⟩ := ent_mem hx
      have hrok := room_ok HQN.out.2.1
      have hpq : ¬ ∃ r, q = x.path ++ r := by
        rintro ⟨r, hr⟩
        rw [hxp] at hr
        by_cases hr0 : r = []
        · rw [hr0, List.append_nil] at hr
          have := hrok.1
          rw [hr, hx] at this
          cases this
        · have := belowB_iff.2 ⟨r, hr0, hr⟩
          rw [HBB.out.1] at this
          cases this
      have hdp : ¬ 8 < q.length + depthF E p := by
        rcases depth_at E p with h | ⟨y, hy, r, hr, hrl⟩
        · have := HS.out.2.2.2.1; omega
        · obtain ⟨j, hj, rfl⟩ := List.getElem_of_mem hy
          have := hno j hj hj r hr
          omega
      have hwf : WF given l := by
        have := wf_ren H.out.wf hxE HQN.out.1 hrok.1 hpq HS.out.2.2.2 hrok.2.2 (by
          rw [hxp]
          by_cases he : p.dropLast = q.dropLast
          · exact .inr he
          · left
            have h1 := HKL.out
            rw [h1.1]
            have h2 := HY.out.2.2.2
            rcases Nat.lt_or_ge kl.length 6 with h | h
            · omega
            · exact absurd ⟨by omega, he⟩ h2) (fun y hy r hr => by
          rw [hxp] at hr
          have := depth_le hy hr
          omega)
        rw [hxp] at this
        rw [hren]
        exact this
      have HTR := Lib.hid (rtry_after (given' := given) H.out (K0.out.trans' kr) own K0.out.size (Kept.refl [] wr) ((Kept.refl [] _).drew) (by omega) (by have := H.out.gv; omega) hwf)
      have HE2 : Hid (R = tryF n given E given l) := Lib.hid (by rw [HMK6.out, if_neg hdp, hren])
      have HK := Lib.hid kr
      clear own kr hll hlk hlt hren hx hwf hp0 hno hxE hxp hrok hpq hdp
      go_wp2_with (fail)
      go_region_law (first
        | (go_simp; go_at_call 42; (with_reducible refine HTR.out.mono ?_); rintro e w7 ⟨rfl, hP⟩))
      all_goals
        have HP := Lib.hid hP
        clear hP
        go_wp2
        go_ret
        rw [HE2.out]
        exact ⟨rfl, HP.out⟩
section
variable {w w' : World} {ff fb sb n : Nat} {V : OM} {d : Nat} {T : List Nat} {z : Bool} {given : Nat} {E : List Nd} {U : List Nat}
theorem CH.aside {S : List Nat} (h : CH w ff fb sb n V d T z given E U) (k : Kept S w w') (hT : ∀ x ∈ S, x ∉ T) (hU : ∀ x ∈ S, x ∉ U) : CH w' ff fb sb n V d T z given E U :=
 ⟨h.st.kept k hT, kept_cell k h.cell (fun hm => hU _ hm h.ffU), h.sim, h.wf, h.gv, h.tabs.kept k hU, h.ffU, h.sep, h.dd⟩
theorem DF.kept {mb : Nat} {v : Value} {S : List Nat} (h : DF w mb n given v E) (k : Kept S w w') (hm : mb ∉ S) (hv : ∀ q, v.ownBlock = some q → q ∉ S) : DF w' mb n given v E :=
 ⟨⟨k.at h.at'.1 hm, h.at'.2.kept k hv⟩, h.few, h.gv, h.wf, h.eight, h.big, h.own⟩
end
def blk16 (n : Int) : Nat := (max 8 (min n 30)).toNat
theorem blk16_bound (n : Int) : 8 ≤ blk16 n ∧ blk16 n ≤ 30 ∧ (blk16 n : Int) = max 8 (min n 30) := by unfold blk16; omega
theorem lawblk16_any (w : World) (n : Int) : Calls Tryz.prog 9 #[I n] w fun e w' => e = .returned (I (blk16 n)) ∧ w' = w := by
 have h := (blk16_bound n).2.2
 have h2 : max (8 : Int) (min n 30) = (blk16 n : Int) := h.symm
 obtain ⟨q, hq⟩ : ∃ q, blk16 n = q := ⟨_, rfl⟩
 rw [hq] at h2 ⊢
 clear h hq
 go_enter Tryz.func9, Tryz.ntmps9
 go_wp2_with (fail)
 go_ret
 exact ⟨rfl, rfl⟩
theorem over16_any (w : World) (fb bb cb n : Nat) (f : Fl) (h : FlAt w fb bb cb f) (h1 : 1 ≤ n) (h2 : f.cs.length = n + 1) :
  Calls Tryz.prog 10 #[Ptr fb] w fun e w' => ∃ pb, e = .returned (Ptr pb) ∧ w.heap.size ≤ pb ∧ PtAt w' pb fb bb cb 1 n f ∧ Kept [] w w' := by
 have HB := Lib.hid (blocks_any w fb bb cb f h)
 have HP := Lib.hid (pnew_any w fb bb cb 1 n f h h1 (by omega))
 have hfew := h.few
 rw [h2] at HB hfew
 have hnI : (n : Int) ≤ 255 := by omega
 have hwr : IntKind.i64.wrap (((n + 1 : Nat) : Int) - 1) = (n : Int) := by rw [IntKind.wrap_i64]; omega
 clear h h1 h2 hfew
 obtain ⟨N, hN⟩ : ∃ N : Nat, n + 1 = N := ⟨_, rfl⟩
 rw [hN] at HB hwr
 clear hN
 go_enter Tryz.func10, Tryz.ntmps10
 go_wp2_with (fail)
 refine HB.out.mono ?_
 rintro e w1 ⟨rfl, rfl⟩
 go_wp2_with (fail)
 refine HP.out.mono ?_
 rintro e w2 ⟨pb, rfl, hpb, hpt, k2⟩
 have H2 := Lib.hid (And.intro hpb (And.intro hpt k2))
 clear hpb hpt k2
 go_wp2_with (fail)
 go_ret
 exact ⟨pb, rfl, H2.out⟩
theorem formed_ok (w : World) (sb : Nat) : Calls Tryz.prog 35 #[Ptr sb, I 0] w fun e w' => ∃ ff, e = .returned (.tuple #[Ptr ff, I 0]) ∧ w.heap.size ≤ ff ∧ w'.cell? ⟨ff, 0, none⟩ = some (Ptr sb) ∧ ff < w'.heap.size ∧ Kept [] w w' := by
 go_enter Tryz.func35, Tryz.ntmps35
 go_wp2_with (fail)
 go_ret2
 have hk := (Kept.refl [] w).alloc (.cells #[Ptr sb] 123)
 refine ⟨w.heap.size, rfl, Nat.le_refl _, ?_, lt_of_block (heap_new w _), hk⟩
 rw [cell_at (heap_new w _)]; rfl
theorem sim_nil : SimV [] 0 [] := by
 intro k
 show none = objF 0 [] k
 unfold objF
 by_cases h1 : k = 1
 ·rw [if_pos h1, if_pos rfl]
 ·rw [if_neg h1]
  by_cases h2 : k < 64
  ·rw [if_pos h2]
  ·rw [if_neg h2]
   split
   ·rw [if_neg (fun h => h.2 rfl)]
   ·rfl
theorem wf_nil : WF 0 [] := ⟨by simp [DistP], by simp, by simp, by simp, by simp, fun p => Nat.zero_le 6, by simp⟩
def flL (n : Nat) : Fl := madeF (flNew (n + 1)) 1 0 1
theorem newL_clean (n k : Nat) (h : k ≤ n) : blockOf (flNew (n + 1)).bs k = fullB := by
 show ((List.replicate (512 * (n + 1)) 255).drop (512 * k)).take 512 = List.replicate 512 255
 rw [List.drop_replicate, List.take_replicate]
 congr 1
 omega
theorem sat_stz {w' : World} {fb bb cb pb sb lb mb kb n : Nat} {v : Value} (h2 : SAt w' sb lb pb fb bb cb mb kb n v St0 (flL n)) (h8 : 8 ≤ n) : STZ w' fb sb n [] 0 (pb :: StT sb lb fb bb cb mb kb v) true := by
 have hI := h2.inv
 have hst : St0.init.length = 0 := rfl
 have hseg : St0.segs = [[]] := rfl
 have hD0 : St0.D = 0 := rfl
 have hfl : FlX n (flL n) ⟨St0, 0⟩ false := by
  intro j hj
  have h6 := h2.fl j hj
  show match St0.segs[j]? with | some rs => ∃ u, SegIs (St0.D + j + 1) (rs.map recF) u (blockOf (flL n).bs (1 + (St0.D + j) % n)) ∧ (j = St0.init.length → u = 0) | none => JunkB (blockOf (flL n).bs (1 + (St0.D + j) % n)) ∨ (false = true ∧ j = St0.init.length + 1 ∧ j + 1 = n ∧ HeadB (St0.D + j + 1) (blockOf (flL n).bs (1 + (St0.D + j) % n)))
  rw [hseg] at h6 ⊢
  cases j with
  | zero =>
   have h6 : blockOf (flL n).bs (1 + (St0.D + 0) % n) = segB (St0.D + 0 + 1) [] := h6
   refine ⟨0, ?_, fun _ => rfl⟩
   rw [h6]
   have := SegIs.new (St0.D + 0 + 1)
   have e : segB (St0.D + 0 + 1) [] = newB (St0.D + 0 + 1) := by unfold segB segP newB; simp [usedF]
   rw [e]
   exact this
  | succ j =>
   have h6 : blockOf (flL n).bs (1 + (St0.D + (j + 1)) % n) = fullB := h6
   exact .inl (by rw [h6]; exact junk_full)
 have hsk : SAtK w' sb lb pb fb bb cb mb kb n v ⟨St0, 0⟩ (flL n) := ⟨h2.lg, h2.core, hfl, ⟨hI, by show usedS [] ≤ 0; simp [usedS], by show 0 ≤ 7; omega⟩, ⟨h2.live.1, by rw [h2.live.2]; decide, by rw [h2.live.2]; decide, by show (0 : Int) ≤ 0; decide⟩, h2.sep⟩
 exact ⟨bb, cb, pb, lb, mb, kb, v, ⟨St0, 0⟩, flL n, rfl, hsk, ⟨h8, by show St0.init.length + 2 ≤ n; omega, Nat.zero_le _⟩, List.Pairwise.nil, fun _ => rfl, Nat.le_refl _, (cs0 (n := n) (by omega) _ rfl).2.2, fun _ => h2.live.2⟩
def Laid16 (n : Nat) (w : World) (e : Ending) (w' : World) : Prop :=
 ∃ fb ff mb sb T, e = .returned (.tuple #[Ptr fb, Ptr ff, Ptr mb]) ∧ STZ w' fb sb n [] 0 T true ∧ w'.cell? ⟨ff, 0, none⟩ = some (Ptr sb) ∧ DF w' mb n 0 (.slice none 0 0) [] ∧ (∀ x ∈ T, w.heap.size ≤ x ∧ x < w'.heap.size ∧ x ≠ ff ∧ x ≠ mb) ∧ w.heap.size ≤ ff ∧ ff < w'.heap.size ∧ w.heap.size ≤ mb ∧ mb ≠ ff ∧ Kept [] w w'
theorem fformat_any (w : World) (pb fb bb cb n : Nat) (f : Fl) (h : PtAt w pb fb bb cb 1 n f) (hd : f.dead = false) (ha : f.armed = 0) (h8 : 8 ≤ n) (hc : ∀ k, k < n → blockOf f.bs (1 + k) = fullB) :
  Calls Tryz.prog 11 #[Ptr pb] w fun e w' => ∃ ff sb lb mb kb v, e = .returned (.tuple #[Ptr ff, I 0]) ∧ SAt w' sb lb pb fb bb cb mb kb n v St0 (madeF f 1 0 1) ∧ w'.cell? ⟨ff, 0, none⟩ = some (Ptr sb) ∧ (∀ x, x ∈ StT sb lb fb bb cb mb kb v → x ∈ [fb, bb, cb] ∨ w.heap.size ≤ x) ∧ (∀ x, x ∈ StT sb lb fb bb cb mb kb v → x ≠ ff) ∧ w.heap.size ≤ ff ∧ ff < w'.heap.size ∧ Kept [fb, bb, cb] w w' := by
 have HF := Lib.hid (sformat_any w pb fb bb cb n f h hd ha h8 hc)
 have HD := Lib.hid (fun W sb => formed_ok W sb)
 clear h hd ha h8 hc
 go_enter Tryz.func11, Tryz.ntmps11
 go_wp2_with (fail)
 refine HF.out.mono ?_
 rintro e w1 ⟨sb, lb, mb, kb, v, rfl, hs, g5, g6, g7, g8, g9, k4⟩
 have H1 := Lib.hid (And.intro hs (And.intro g5 (And.intro g6 (And.intro g7 (And.intro g8 (And.intro g9 k4))))))
 clear hs g5 g6 g7 g8 g9 k4
 go_wp2_with (fail)
 refine (HD.out w1 sb).mono ?_
 rintro e w2 ⟨ff, rfl, h1, h2, h3, k2⟩
 have H2 := Lib.hid (And.intro h1 (And.intro h2 (And.intro h3 k2)))
 clear h1 h2 h3 k2
 go_wp2_with (fail)
 go_ret2
 obtain ⟨hs, g5, g6, g7, g8, g9, k4⟩ := H1.out
 obtain ⟨h1, h2, h3, k2⟩ := H2.out
 have hlt := stT_lt hs
 have z4 := k4.size
 refine ⟨ff, sb, lb, mb, kb, v, rfl, hs.same k2, h2, fun x hx => ?_, fun x hx => ?_, by omega, h3, k4.trans' (k2.mono (by simp))⟩
 ·simp only [StT, LgT, List.mem_append, Option.mem_toList] at hx
  rcases hx with hx | hx | hx
  ·simp at hx
   rcases hx with rfl | rfl | rfl
   ·exact .inr g5
   ·exact .inr g7
   ·exact .inr g8
  ·simp at hx
   rcases hx with rfl | rfl | rfl | rfl
   ·exact .inr g6
   ·exact .inl (by simp)
   ·exact .inl (by simp)
   ·exact .inl (by simp)
  ·exact .inr (g9 x (by simpa using hx))
 ·have := hlt.1 x hx; omega
theorem laid16_any (w : World) (m : Int) : Calls Tryz.prog 4 #[I m] w (Laid16 (blk16 m) w) := by
 obtain ⟨q1, q2, _⟩ := blk16_bound m
 have HB := Lib.hid (fun W => lawblk16_any W m)
 obtain ⟨n, hn⟩ : ∃ n, blk16 m = n := ⟨_, rfl⟩
 rw [hn] at HB q1 q2 ⊢
 have HN := Lib.hid (fnew_any w (n + 1) (by omega) (by omega))
 have HO := Lib.hid (fun W fb bb cb (h : FlAt W fb bb cb (flNew (n + 1))) => over16_any W fb bb cb n _ h (by omega) (by simp [flNew]))
 have HF := Lib.hid (fun W pb fb bb cb (h : PtAt W pb fb bb cb 1 n (flNew (n + 1))) => fformat_any W pb fb bb cb n _ h rfl rfl q1 (fun k hk => newL_clean n (1 + k) (by omega)))
 have HQ := Lib.hid (And.intro q1 q2)
 have hadd : IntKind.i64.wrap ((n : Int) + 1) = ((n + 1 : Nat) : Int) := by rw [IntKind.wrap_i64]; omega
 obtain ⟨N, hN⟩ : ∃ N, n + 1 = N := ⟨_, rfl⟩
 have hz : flL n = madeF (flNew N) 1 0 1 := by rw [← hN]; rfl
 have HZ := Lib.hid hz
 rw [hN] at HN HO HF hadd
 have hnI : (n : Int) ≤ 30 := by omega
 clear hN q1 q2 hz hn
 go_enter Tryz.func4, Tryz.ntmps4
 go_wp2_with (fail)
 refine (HB.out _).mono ?_
 rintro e w1 ⟨rfl, rfl⟩
 go_wp2_with (fail)
 refine HN.out.mono ?_
 rintro e w2 ⟨fb, bb, cb, rfl, g1, g2, g3, hf, k2⟩
 have H2 := Lib.hid (And.intro g1 (And.intro g2 (And.intro g3 (And.intro hf k2))))
 clear g1 g2 g3 hf k2
 go_wp2_with (fail)
 refine (HO.out _ _ _ _ H2.out.2.2.2.1).mono ?_
 rintro e w3 ⟨pb, rfl, g4, hp, k3⟩
 have H3 := Lib.hid (And.intro g4 (And.intro hp k3))
 clear g4 hp k3
 go_wp2_with (fail)
 refine (HF.out _ _ _ _ _ H3.out.2.1).mono ?_
 rintro e w4 ⟨ff, sb, lb, mb, kb, v, rfl, hs, g5, g6, g7, g8, g9, k4⟩
 have H4 := Lib.hid (And.intro hs (And.intro g5 (And.intro g6 (And.intro g7 (And.intro g8 (And.intro g9 k4))))))
 clear hs g5 g6 g7 g8 g9 k4
 go_wp2_with (fail)
 refine (HB.out _).mono ?_
 rintro e w5 ⟨rfl, rfl⟩
 go_wp2_with (fail)
 go_ret3
 obtain ⟨g1, g2, g3, hf, k2⟩ := H2.out
 obtain ⟨g4, hp, k3⟩ := H3.out
 obtain ⟨hs, g5, g6, g7, g8, g9, k4⟩ := H4.out
 have z2 := k2.size
 have z3 := k3.size
 have z4 := k4.size
 have hk := (Kept.refl [] w5).alloc (.cells #[I n, I 0, .slice none 0 0] 47)
 show Laid16 n w1 _ (w5.alloc (.cells #[I n, I 0, .slice none 0 0] 47))
 have hz := lt_of_block (heap_new w5 (.cells #[I n, I 0, .slice none 0 0] 47))
 rw [← HZ.out] at hs
 have hst := (sat_stz hs HQ.out.1).same hk
 have hlt := stT_lt hs
 have hnew := heap_new w5 (.cells #[I n, I 0, .slice none 0 0] 47)
 refine ⟨fb, ff, w5.heap.size, sb, _, rfl, hst, hk.cellOf g5, ⟨⟨hnew, EDAt.nil _⟩, by simp, by omega, wf_nil, HQ.out.1, by have := HQ.out.2; omega, fun q (hq : none = some q) => by cases hq⟩, fun x hx => ?_, by omega, by omega, by omega, by omega, ((k2.trans' k3).new k4 (by intro x hx; simp at hx; omega)).trans' hk⟩
 rcases List.mem_cons.1 hx with rfl | hx
 ·have := hlt.2
  have := lt_of_block hp.blk
  exact ⟨by omega, by omega, by omega, by omega⟩
 ·have h9 := hlt.1 x hx
  refine ⟨?_, by omega, g7 x hx, by omega⟩
  rcases g6 x hx with h6 | h6
  ·simp at h6; omega
  ·omega
def qZ : List UInt8 := List.replicate 60 0
def qE1 : List Nd := [⟨[[97]], 2, false, []⟩]
def qE2 : List Nd := [⟨[[97]], 2, false, qZ⟩]
def qE3 : List Nd := [⟨[[97]], 2, false, qZ⟩, ⟨[[100]], 3, true, []⟩]
def qE4 : List Nd := [⟨[[100], [97]], 2, false, qZ⟩, ⟨[[100]], 3, true, []⟩]
theorem qx1 : makeF 14 0 [] [47, 97] false = (0, 1, qE1) := by kernel_rfl
theorem qx2 : wL (objL 1 qE1) = 3 := by kernel_rfl
theorem qx3 : writeF 14 1 qE1 [47, 97] 0 qZ = (0, 1, qE2) := by kernel_rfl
theorem qx4 : wL (objL 1 qE2) = 5 := by kernel_rfl
theorem qx5 : makeF 14 1 qE2 [47, 100] true = (0, 2, qE3) := by kernel_rfl
theorem qx6 : renameF 14 2 qE3 [47, 97] [47, 100, 47, 97] = (0, 2, qE4) := by kernel_rfl
theorem qx7 : listF qE4 [47, 100] = (0, [[97]]) := by kernel_rfl
theorem qx8 : renameF 14 2 qE4 [47, 100] [47, 100, 47, 120] = (164, 2, qE4) := by kernel_rfl
theorem qx9 : makeF 14 2 qE4 [47, 100, 47, 97, 47, 98] false = (163, 2, qE4) := by kernel_rfl
theorem qx10 : readF qE4 [47, 100, 47, 97] 58 9 = ([0, 0], 0) := by kernel_rfl
theorem qx11 : makeF 14 2 qE4 [97] false = (160, 2, qE4) := by kernel_rfl
structure Grown (given : Nat) (E : List Nd) (R : Int × Nat × List Nd) : Prop where
 wf : WF R.2.1 R.2.2
 gv : R.2.1 ≤ given + 1
 few : R.2.2.length ≤ E.length + 1
 no : R.1 ≠ 0 → R.2 = (given, E)
section
variable {n given : Nat} {E : List Nd}
theorem Grown.refuse (h : WF given E) (r : Int) : Grown given E (r, given, E) := ⟨h, Nat.le_succ _, Nat.le_succ _, fun _ => rfl⟩
theorem Grown.try {g' : Nat} {E' : List Nd} (h : WF given E) (h' : WF g' E') (hg : g' ≤ given + 1) (hl : E'.length ≤ E.length + 1) : Grown given E (tryF n given E g' E') := by
 unfold tryF
 split
 ·exact ⟨h', hg, hl, fun h => absurd rfl h⟩
 ·exact Grown.refuse h 166
theorem make_grown (h : WF given E) (s : List UInt8) (dir : Bool) : Grown given E (makeF n given E s dir) := by
 unfold makeF
 split
 ·exact .refuse h _
 ·next p hp =>
  obtain ⟨-, hpv⟩ := pathT_of hp
  split
  ·exact .refuse h _
  ·next hp0 =>
   split
   ·exact .refuse h _
   ·split
    ·exact .refuse h _
    ·next hd =>
     split
     ·exact .refuse h _
     ·next he =>
      split
      ·exact .refuse h _
      ·next hk =>
       have hd : isDirP E p.dropLast = true := by cases hx : isDirP E p.dropLast with | true => rfl | false => exact absurd hx hd
       have he : ent E p = none := by cases hx : ent E p with | none => rfl | some x => rw [hx] at he; exact absurd rfl he
       have := h.few p.dropLast
       exact .try h (wf_make h hp0 hpv.1 hpv.2 hd he (by omega) dir) (Nat.le_refl _) (by simp)
theorem set_len (x : Nd) : (setE E x).length ≤ E.length + 1 := by
 unfold setE
 rw [List.length_append]
 have := List.length_filter_le (fun y : Nd => decide (y.path ≠ x.path)) E
 simp only [List.length_singleton]
 omega
theorem set_grown (h : WF given E) {s : List UInt8} (hf : (fileF E s).1 = 0) {D : List UInt8} (hD : D.length ≤ 4096) : WF given (setE E ⟨(fileF E s).2.path, (fileF E s).2.num, (fileF E s).2.dir, D⟩) := by
 obtain ⟨p, hp, hf0, hxd, hxe, hxE⟩ := file_mem (E := E) (s := s) hf
 have hxdir : (fileF E s).2.dir = false := by rw [← isDirP_of h hxe]; exact hxd
 exact wf_set h hxE rfl rfl rfl hD (by intro hh; rw [show (⟨(fileF E s).2.path, (fileF E s).2.num, (fileF E s).2.dir, D⟩ : Nd).dir = (fileF E s).2.dir from rfl, hxdir] at hh; cases hh)
theorem write_grown (h : WF given E) (s : List UInt8) (a : Int) (t : List UInt8) : Grown given E (writeF n given E s a t) := by
 unfold writeF
 split
 ·exact .refuse h _
 ·next hf =>
  split
  ·exact .refuse h _
  ·next hb =>
   have hf : (fileF E s).1 = 0 := by simpa using hf
   obtain ⟨p, hp, hf0, hxd, hxe, hxE⟩ := file_mem (E := E) (s := s) hf
   have h4 := (h.data _ hxE).1
   simp only [not_or] at hb
   obtain ⟨b1, b2, b3, b4⟩ := hb
   refine .try h (set_grown h hf ?_) (Nat.le_succ _) (set_len _)
   rw [wrB_len _ _ _ (by omega)]
   omega
theorem trunc_grown (h : WF given E) (s : List UInt8) (a : Int) : Grown given E (truncF n given E s a) := by
 unfold truncF
 split
 ·exact .refuse h _
 ·next hf =>
  split
  ·exact .refuse h _
  ·next hb =>
   have hf : (fileF E s).1 = 0 := by simpa using hf
   obtain ⟨p, hp, hf0, hxd, hxe, hxE⟩ := file_mem (E := E) (s := s) hf
   have h4 := (h.data _ hxE).1
   refine .try h (set_grown h hf ?_) (Nat.le_succ _) (set_len _)
   rw [List.length_take]
   omega
theorem remove_grown (h : WF given E) (s : List UInt8) : Grown given E (removeF n given E s) := by
 unfold removeF
 split
 ·exact .refuse h _
 ·next p hp =>
  split
  ·exact .refuse h _
  ·next hp0 =>
   split
   ·exact .refuse h _
   ·next hf =>
    split
    ·exact .refuse h _
    ·next hk =>
     have hk : kids E p = [] := by simpa using hk
     have hf : findF E [] p = 0 := by simpa using hf
     obtain ⟨x, hx⟩ := Option.isSome_iff_exists.1 (find_ent E p [] hf hp0)
     have hw := wf_rem h (ent_mem hx).1 (by rw [(ent_mem hx).2]; exact hk)
     rw [(ent_mem hx).2] at hw
     refine .try h hw (Nat.le_succ _) ?_
     unfold remE
     exact Nat.le_succ_of_le (List.length_filter_le _ _)
theorem rename_grown (h : WF given E) (s t : List UInt8) : Grown given E (renameF n given E s t) := by
 unfold renameF
 split
 ·exact .refuse h _
 next p hp =>
 split
 ·exact .refuse h _
 next q hq =>
 obtain ⟨-, hqv⟩ := pathT_of hq
 split
 ·exact .refuse h _
 next hp0 =>
 split
 ·exact .refuse h _
 next hf =>
 split
 ·exact .refuse h _
 next hb =>
 split
 ·exact .refuse h _
 next hq0 =>
 split
 ·exact .refuse h _
 split
 ·exact .refuse h _
 next hd =>
 split
 ·exact .refuse h _
 next he =>
 split
 ·exact .refuse h _
 next hk =>
 have hf : findF E [] p = 0 := by simpa using hf
 obtain ⟨x, hx⟩ := Option.isSome_iff_exists.1 (find_ent E p [] hf hp0)
 replace hx : ent E p = some x := hx
 obtain ⟨hxE, hxp⟩ := ent_mem hx
 have hd : isDirP E q.dropLast = true := by cases hx : isDirP E q.dropLast with | true => rfl | false => exact absurd hx hd
 have he : ent E q = none := by cases hx : ent E q with | none => rfl | some x => rw [hx] at he; exact absurd rfl he
 have hpq : ¬ ∃ r, q = x.path ++ r := by
  rintro ⟨r, hr⟩
  rw [hxp] at hr
  by_cases hr0 : r = []
  ·rw [hr0, List.append_nil] at hr
   rw [hr, hx] at he
   cases he
  ·have hl := List.length_pos_iff.2 hr0
   exact hb ⟨by rw [hr, List.length_append]; omega, by rw [hr]; simp⟩
 have hw := wf_ren h hxE hq0 he hpq hqv hd (by
  rw [hxp]
  by_cases he : p.dropLast = q.dropLast
  ·exact .inr he
  ·left
   have := h.few q.dropLast
   rcases Nat.lt_or_ge (kids E q.dropLast).length 6 with h6 | h6
   ·omega
   ·exact absurd (.inl ⟨by omega, he⟩) hk) (fun y hy r hr => by
  rw [hxp] at hr
  have := depth_le hy hr
  rcases Nat.lt_or_ge 8 (q.length + depthF E p) with h8 | h8
  ·exact absurd (.inr h8) hk
  ·omega)
 rw [hxp] at hw
 refine .try h hw (Nat.le_succ _) ?_
 unfold renE
 rw [List.length_map]
 exact Nat.le_succ _
end
section
variable {w : World} {ff fb sb n : Nat} {V : OM} {d : Nat} {T : List Nat} {z : Bool} {given : Nat} {E : List Nd} {U : List Nat}
theorem stk_quota (h : STK w fb sb n V d T) : Calls Tryz.prog 70 #[Ptr sb] w fun e w' => e = .returned (I (quotaF n : Nat)) ∧ w' = w := by
 obtain ⟨bb, cb, pb, lb, mb, kb, v, st, f, e, h1, h2, h3, h4, h5, h6⟩ := h
 obtain ⟨C, hc, _⟩ := h1.core
 exact oquota_any w sb pb lb mb kb fb bb cb n _ _ C hc f h1.lg.pt h2.1
theorem fweight_any (h : FR w ff sb V given E) : Calls Tryz.prog 29 #[Ptr ff] w fun e w' => e = .returned (I (wL (objL given E) : Nat)) ∧ w' = w := by
 have HW := Lib.hid (RD.weight h.rd)
 rw [sim_weight h.rd.1 h.wf h.sim] at HW
 have c0 := h.cell
 clear h
 go_enter Tryz.func29, Tryz.ntmps29
 go_wp2_with (fail)
 refine HW.out.mono ?_
 rintro e w1 ⟨rfl, rfl⟩
 go_wp2_with (fail)
 go_ret
 exact ⟨rfl, rfl⟩
theorem fquota_any (h : STK w fb sb n V d T) (c0 : w.cell? ⟨ff, 0, none⟩ = some (Ptr sb)) : Calls Tryz.prog 28 #[Ptr ff] w fun e w' => e = .returned (I (quotaF n : Nat)) ∧ w' = w := by
 have HW := Lib.hid (stk_quota h)
 clear h
 go_enter Tryz.func28, Tryz.ntmps28
 go_wp2_with (fail)
 refine HW.out.mono ?_
 rintro e w1 ⟨rfl, rfl⟩
 go_wp2_with (fail)
 go_ret
 exact ⟨rfl, rfl⟩
end
def Lf (w0 w : World) (ff fb sb n d given : Nat) (E : List Nd) (M : List Nat) : Prop :=
 ∃ V T U, CH w ff fb sb n V d T true given E U ∧ (∀ x ∈ T, w0.heap.size ≤ x) ∧ (∀ x ∈ M, x ∉ T ∧ x ∉ U ∧ x < w.heap.size ∧ w0.heap.size ≤ x) ∧ Kept [] w0 w
def Df (w : World) (mb n given : Nat) (v : Value) (E : List Nd) (M : List Nat) : Prop := DF w mb n given v E ∧ mb ∈ M ∧ ∀ q, v.ownBlock = some q → q ∈ M
section
variable {w0 w : World} {ff fb sb n d given : Nat} {E : List Nd} {M : List Nat}
theorem Lf.same {w' : World} (h : Lf w0 w ff fb sb n d given E M) (k : Kept [] w w') : Lf w0 w' ff fb sb n d given E M := by
 obtain ⟨V, T, U, h1, h2, h3, h4⟩ := h
 exact ⟨V, T, U, h1.same k, h2, fun x hx => ⟨(h3 x hx).1, (h3 x hx).2.1, Nat.lt_of_lt_of_le (h3 x hx).2.2.1 k.size, (h3 x hx).2.2.2⟩, h4.trans' k⟩
theorem Lf.fr (h : Lf w0 w ff fb sb n d given E M) : (∃ V, FR w ff sb V given E) ∧ Tabs w := by
 obtain ⟨V, T, U, h1, _⟩ := h
 exact ⟨⟨V, h1.fr⟩, h1.tabs.1⟩
theorem Lf.wf (h : Lf w0 w ff fb sb n d given E M) : WF given E := by obtain ⟨V, T, U, h1, _⟩ := h; exact h1.wf
theorem Lf.old (h : Lf w0 w ff fb sb n d given E M) : Kept [] w0 w := by obtain ⟨V, T, U, h1, _, _, h4⟩ := h; exact h4
theorem Lf.tabs (h : Lf w0 w ff fb sb n d given E M) : ∃ U, TabsU w U := by obtain ⟨V, T, U, h1, _⟩ := h; exact ⟨U, h1.tabs⟩
theorem Lf.mono {d' : Nat} (h : Lf w0 w ff fb sb n d given E M) (hd : d ≤ d') (h6 : d' ≤ 600000000) : Lf w0 w ff fb sb n d' given E M := by
 obtain ⟨V, T, U, h1, h2⟩ := h
 exact ⟨V, T, U, ⟨h1.st.mono hd, h1.cell, h1.sim, h1.wf, h1.gv, h1.tabs, h1.ffU, h1.sep, h6⟩, h2⟩
theorem lf_quota (h : Lf w0 w ff fb sb n d given E M) : Calls Tryz.prog 28 #[Ptr ff] w fun e w' => e = .returned (I (quotaF n : Nat)) ∧ w' = w := by
 obtain ⟨V, T, U, h1, _⟩ := h
 exact fquota_any h1.st.stk h1.cell
theorem lf_weight (h : Lf w0 w ff fb sb n d given E M) : Calls Tryz.prog 29 #[Ptr ff] w fun e w' => e = .returned (I (wL (objL given E) : Nat)) ∧ w' = w := by
 obtain ⟨⟨V, h1⟩, _⟩ := h.fr
 exact fweight_any h1
theorem lf_op {f : Nat} {a : Array Value} {R : Int × Nat × List Nd} (h : Lf w0 w ff fb sb n d given E M) (hd : d ≤ 500000000) (hn : n ≤ 255) (c : ∀ V T U, CH w ff fb sb n V d T true given E U → Calls Tryz.prog f a w (OpP w fb sb n V d T true given E R)) (g : Grown given E R) (hg : given + 1 ≤ 16777000) :
  Calls Tryz.prog f a w fun e w' => e = .returned (I R.1) ∧ Lf w0 w' ff fb sb n (d + 2 * (n + 1)) R.2.1 R.2.2 M ∧ ∃ T, (∀ x ∈ M, x ∉ T) ∧ Kept T w w' := by
 obtain ⟨V, T, U, h1, h2, h3, h4⟩ := h
 refine (c V T U h1).mono ?_
 rintro e w' ⟨r, T', rfl, hp, hlt, hk, hT⟩
 rcases hp with ⟨rfl, V', hsim, hst⟩ | ⟨_, hz, _⟩
 ·refine ⟨rfl, ⟨V', T', U, h1.turn hk hst hT hsim g.wf (by have := g.gv; omega) (by omega), fun x hx => ?_, fun x hx => ⟨fun hm => ?_, (h3 x hx).2.1, Nat.lt_of_lt_of_le (h3 x hx).2.2.1 hk.size, (h3 x hx).2.2.2⟩, h4.new hk h2⟩, T, fun x hx => (h3 x hx).1, hk⟩
  ·rcases hT x hx with h5 | h5
   ·exact h2 x h5
   ·have := h4.size; omega
  ·rcases hT x hm with h5 | h5
   ·exact (h3 x hx).1 h5
   ·have := (h3 x hx).2.2.1; omega
 ·cases hz
theorem Df.kept {mb : Nat} {v : Value} {T : List Nat} {w' : World} (h : Df w mb n given v E M) (k : Kept T w w') (hT : ∀ x ∈ M, x ∉ T) : Df w' mb n given v E M :=
 ⟨h.1.kept k (hT _ h.2.1) (fun q hq => hT _ (h.2.2 q hq)), h.2⟩
end
end Go.Proofs.YteplbljjlbdhaaaGreatDoor
