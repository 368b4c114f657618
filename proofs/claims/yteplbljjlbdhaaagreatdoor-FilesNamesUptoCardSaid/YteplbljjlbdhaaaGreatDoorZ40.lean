/- Walks and lemmas on the program of this seat, used by its statements; each theorem bears its own conditions. -/
import Derived.Test.YteplbljjlbdhaaaGreatDoorZ39
namespace Go.Proofs.YteplbljjlbdhaaaGreatDoor
open Go.RowKit
set_option linter.unusedVariables false
set_option linter.unusedSimpArgs false
set_option linter.unusedSectionVars false
set_option maxHeartbeats 16000000
set_option maxRecDepth 100000
theorem sequal_any (va vb : Value) (xs ys : List (List UInt8)) (w : World) (ha : StrsAt w va xs) (hb : StrsAt w vb ys) (r : Bool) (hr : decide (xs = ys) = r) :
    Calls Tryz.prog 55 #[va, vb] w fun e w' => e = .returned (.bool r) ∧ Kept [] w w' := by
  obtain ⟨p, ca, rfl, hla, hla2, _, hca⟩ := ha
  obtain ⟨q, cb, rfl, hlb, hlb2, _, hcb⟩ := hb
  have hx : (xs.length : Int) ≤ 9223372036854775807 := by omega
  have hy : (ys.length : Int) ≤ 9223372036854775807 := by omega
  have HR := Lib.hid hr
  have HC := Lib.hid (And.intro hca hcb)
  clear hr hca hcb hla2 hlb2
  by_cases hn : xs.length = ys.length
  · have en : ((xs.length : Int) != ys.length) = false := by simp [hn]
    have HN := Lib.hid hn
    clear hn
    go_enter Tryz.func55, Tryz.ntmps55
    go_wp2_with (fail)
    go_loopw [13] (fun i wr => ∃ k : Nat, k ≤ xs.length ∧ i = I k ∧ xs.take k = ys.take k ∧ Kept [] w wr) (fun i _ => xs.length - (intOf i).toNat)
    case atStart => exact ⟨0, by omega, rfl, by simp, Kept.refl _ _⟩
    case round =>
      obtain ⟨k, hk, rfl, ht, hkw⟩ := hrel
      have HT := Lib.hid (And.intro ht hkw)
      clear ht hkw
      by_cases hlt : k < xs.length
      · have hlt' : (k : Int) < xs.length := by omega
        have hlt2 : (k : Int) < ys.length := by rw [← HN.out]; exact hlt'
        obtain ⟨b1, o1, rfl, hc1⟩ := HC.out.1 (by intro e; rw [e] at hlt; simp at hlt)
        obtain ⟨b2, o2, rfl, hc2⟩ := HC.out.2 (by intro e; rw [e] at hlt2; simp at hlt2; omega)
        have x1 := HT.out.2.cellOf (hc1 k hlt)
        have x2 := HT.out.2.cellOf (hc2 k (by omega))
        have HT1 : Hid (xs.take (k + 1) = xs.take k ++ [xs.getD k []]) := Lib.hid (by rw [List.take_succ_eq_append_getElem hlt]; simp [List.getD, hlt])
        have HT2 : Hid (ys.take (k + 1) = ys.take k ++ [ys.getD k []]) := Lib.hid (by have h : k < ys.length := by omega
                                                                                      rw [List.take_succ_eq_append_getElem h]; simp [List.getD, h])
        have HNE : Hid (xs.getD k [] ≠ ys.getD k [] → xs ≠ ys) := Lib.hid (fun h e => h (by rw [e]))
        obtain ⟨x, hx1⟩ : ∃ x, xs.getD k [] = x := ⟨_, rfl⟩
        obtain ⟨y, hy1⟩ : ∃ y, ys.getD k [] = y := ⟨_, rfl⟩
        rw [hx1] at x1 HT1 HNE
        rw [hy1] at x2 HT2 HNE
        clear hx1 hy1 hc1 hc2
        by_cases hq : x = y
        · have hqb : (x == y) = true := by simpa using hq
          have HQ := Lib.hid hq
          clear hq
          go_wp2_with (fail)
          go_quiet (fail)
          go_wp2
          go_roundw
          case rel => exact ⟨k + 1, by omega, by go_num, by rw [HT1.out, HT2.out, HT.out.1, HQ.out], HT.out.2.drewN _⟩
          case measure => simp [intOf]; omega
        · have hqb : (x == y) = false := by simpa using hq
          have HX : Hid (r = false) := Lib.hid (by rw [← HR.out]; exact decide_eq_false (HNE.out hq))
          clear hq
          go_wp2_with (fail)
          go_quiet (fail)
          go_wp2
          go_ret
          exact ⟨by rw [HX.out]; rfl, HT.out.2.drewN _⟩
      · obtain rfl : k = xs.length := by omega
        have HX : Hid (r = true) := Lib.hid (by
          rw [← HR.out]; apply decide_eq_true
          have := HT.out.1
          rw [List.take_length, HN.out, List.take_length] at this; exact this)
        go_wp2_with (fail)
        go_ret
        exact ⟨by rw [HX.out]; rfl, HT.out.2⟩
  · have en : ((xs.length : Int) != ys.length) = true := by simp; omega
    have HX : Hid (r = false) := Lib.hid (by rw [← HR.out]; apply decide_eq_false; intro e; exact hn (by rw [e]))
    clear hn
    go_enter Tryz.func55, Tryz.ntmps55
    go_wp2_with (fail)
    go_ret
    exact ⟨by rw [HX.out]; rfl, Kept.refl _ _⟩
theorem StrsAt.cut {w : World} {lp : Option Addr} {n lc : Nat} {q : List Nm} (h : StrsAt w (.slice lp n lc) q) {k : Nat} (hk : k ≤ n) : StrsAt w (.slice lp k lc) (q.take k) := by
 obtain ⟨a, c, hv, h1, h2, h3, h4⟩ := h
 injection hv with e1 e2 e3
 subst e1; subst e2; subst e3
 have hl : (q.take k).length = k := by rw [List.length_take]; omega
 refine ⟨lp, lc, by rw [hl], by omega, by omega, h3, fun hne => ?_⟩
 obtain ⟨b, off, hp, hc⟩ := h4 (by rintro rfl; simp at hne)
 refine ⟨b, off, hp, fun i hi => ?_⟩
 rw [hc i (by omega)]
 rw [List.getD_eq_getElem?_getD, List.getD_eq_getElem?_getD, List.getElem?_take_of_lt (by omega)]
theorem len_quota {w : World} {ff fb sb n : Nat} {V : OM} {d : Nat} {T : List Nat} {z : Bool} {given : Nat} {E : List Nd} {U : List Nat} (h : CH w ff fb sb n V d T z given E U) : E.length ≤ 1000 := by
 have h1 := sim_weight h.st.sorted h.wf h.sim
 have h2 := h.st.stk.small
 have h3 : ∀ l : List Nd, l.length ≤ wL ((l.map (objX E)).flatten) := fun l => by
  induction l with
  | nil => simp
  | cons x t ih =>
   rw [List.map_cons, List.flatten_cons, wL_append]
   have : 1 ≤ wL (objX E x) := by
    unfold wL objX
    rw [List.map_cons, List.sum_cons]
    have : 1 ≤ wF (rowX E x) := by unfold wF pagesF; split <;> omega
    show 1 ≤ wF (rowX E x) + _
    omega
   simp only [List.length_cons]
   omega
 have h4 := h3 E
 unfold objL at h1
 rw [wL_append, wL_append] at h1
 have : quotaF n ≤ 1000 := by unfold quotaF; omega
 omega
def renameF (n given : Nat) (E : List Nd) (s t : List UInt8) : Int × Nat × List Nd := match WX.pathF s with
 | none => (160, given, E)
 | some p => match WX.pathF t with
  | none => (160, given, E)
  | some q => if p = [] then (164, given, E) else if findF E [] p ≠ 0 then (((findF E [] p : Nat) : Int), given, E) else if p.length < q.length ∧ q.take p.length = p then (164, given, E) else if q = [] then (162, given, E) else if findF E [] q.dropLast ≠ 0 then (((findF E [] q.dropLast : Nat) : Int), given, E) else if isDirP E q.dropLast = false then (163, given, E) else if (ent E q).isSome = true then (162, given, E) else if ((kids E q.dropLast).length = 6 ∧ p.dropLast ≠ q.dropLast) ∨ 8 < q.length + depthF E p then (165, given, E) else tryF n given E given (renE E p q)
theorem frename_any (w : World) (ff fb sb n : Nat) (V : OM) (d : Nat) (T : List Nat) (z : Bool) (given : Nat) (E : List Nd) (U : List Nat) (h : CH w ff fb sb n V d T z given E U) (hd5 : d ≤ 500000000) (s t : List UInt8) (hs : s.length < 4294967281) (ht : t.length < 4294967281) :
  Calls Tryz.prog 19 #[Ptr ff, S s, S t] w (OpP w fb sb n V d T z given E (renameF n given E s t)) := by
 have HP := Lib.hid (fpath_any w s hs h.tabs.1)
 have H := Lib.hid h
 have hmm := @run_makeMap Tryz.prog
 obtain ⟨R, hR⟩ : ∃ R, renameF n given E s t = R := ⟨_, rfl⟩
 have HR := Lib.hid hR
 rw [hR]
 clear h hR
 go_enter Tryz.func19, Tryz.ntmps19
 go_wp2_with (fail)
 refine HP.out.mono ?_
 rintro e w0 ⟨⟨v0, rfl, h0⟩, k0⟩
 unfold PathP at h0
 have K0 := Lib.hid k0
 clear k0
 cases hp : WX.pathF s with
 | none =>
  rw [hp] at h0
  have h0 : v0 = .tuple #[.slice none 0 0, I 160] := h0
  subst h0
  have HE : Hid (R = (160, given, E)) := Lib.hid (by rw [← HR.out]; unfold renameF; rw [hp])
  clear hp
  go_wp2_with (fail)
  go_ret
  rw [HE.out]
  exact OpP.no (H.out.st.same K0.out) (by omega) H.out.sim (K0.out.mono (by simp)) (fun x hx => .inl hx) 160
 | some p =>
  rw [hp] at h0
  obtain ⟨lv0, rfl, _⟩ := h0
  have HPS := Lib.hid (And.intro hp (WX.path_names hp))
  have HC := Lib.hid (changes_any w0 ff fb sb n V d T z given E U (H.out.same K0.out) hd5 t ht)
  clear hp
  go_wp2_with (fail)
  refine HC.out.mono ?_
  rintro e w1 (⟨hq, rfl, k1⟩ | ⟨q, hq, ⟨rfl, T1, hch, hk1, hT1⟩ | ⟨rfl, hz, T1, hpf, hk1, hT1⟩⟩)
  ·have HE : Hid (R = (160, given, E)) := Lib.hid (by rw [← HR.out]; unfold renameF; rw [HPS.out.1, hq])
   have K1 := Lib.hid (K0.out.trans' k1)
   clear hq k1
   go_wp2_with (fail)
   go_ret
   rw [HE.out]
   exact OpP.no (H.out.st.same K1.out) (by omega) H.out.sim (K1.out.mono (by simp)) (fun x hx => .inl hx) 160
  ·have hk01 : Kept T w w1 := (K0.out.mono (by simp)).trans' hk1
   have hT01 : ∀ x ∈ T1, x ∈ T ∨ w.heap.size ≤ x := fun x hx => (hT1 x hx).imp id (fun h => by have := K0.out.size; omega)
   have H1 := Lib.hid (And.intro hch (And.intro hk01 hT01))
   have HNO : Hid (∀ (W : World) (r : Int), Kept [] w1 W → OpP w fb sb n V d T z given E (r, given, E) (.returned (I r)) W) := Lib.hid (fun W r k => OpP.no (H1.out.1.st.same k) (by omega) H.out.sim (H1.out.2.1.trans k (by simp)) H1.out.2.2 r)
   have HQS := Lib.hid (And.intro hq (WX.path_names hq))
   have HPA := Lib.hid (fpath_any w1 s hs hch.tabs.1)
   have HPB := Lib.hid (fun W (k : Kept [] w1 W) => fpath_any W t ht (H1.out.1.tabs.1.kept k))
   have HRR : Hid (R = if p = [] then (164, given, E) else if findF E [] p ≠ 0 then (((findF E [] p : Nat) : Int), given, E) else if p.length < q.length ∧ q.take p.length = p then (164, given, E) else if q = [] then (162, given, E) else if findF E [] q.dropLast ≠ 0 then (((findF E [] q.dropLast : Nat) : Int), given, E) else if isDirP E q.dropLast = false then (163, given, E) else if (ent E q).isSome = true then (162, given, E) else if ((kids E q.dropLast).length = 6 ∧ p.dropLast ≠ q.dropLast) ∨ 8 < q.length + depthF E p then (165, given, E) else tryF n given E given (renE E p q)) := Lib.hid (by rw [← HR.out]; unfold renameF; rw [HPS.out.1, hq])
   clear hq hch hk1 hT1 hk01 hT01
   go_wp2_with (fail)
   refine HPA.out.mono ?_
   rintro e w2 ⟨⟨v2, rfl, h2⟩, k2⟩
   unfold PathP at h2
   rw [HPS.out.1] at h2
   obtain ⟨lv, rfl, hl⟩ := h2
   have hl2 := hl.at
   obtain ⟨lp, lc, rfl⟩ : ∃ lp lc, lv = .slice lp p.length lc := by obtain ⟨a, b, c, _⟩ := hl.at; exact ⟨a, b, c⟩
   have HL := Lib.hid hl2
   have K2 := Lib.hid k2
   clear hl hl2 k2
   go_wp2_with (fail)
   refine (HPB.out w2 K2.out).mono ?_
   rintro e w3 ⟨⟨v3, rfl, h3⟩, k3⟩
   unfold PathP at h3
   rw [HQS.out.1] at h3
   obtain ⟨mv, rfl, hm⟩ := h3
   have hm2 := hm.at
   obtain ⟨mp, mc, rfl⟩ : ∃ mp mc, mv = .slice mp q.length mc := by obtain ⟨a, b, c, _⟩ := hm.at; exact ⟨a, b, c⟩
   have HL3 := Lib.hid (StrsAt.kept HL.out k3)
   have HM3 := Lib.hid hm2
   have K3 := Lib.hid (K2.out.trans' k3)
   have hp8 := HPS.out.2.1
   have hq8 := HQS.out.2.1
   have hpI : (p.length : Int) ≤ 8 := by omega
   have hqI : (q.length : Int) ≤ 8 := by omega
   have hmcap : q.length ≤ mc := by obtain ⟨a, b, e, h1, _⟩ := hm2; cases e; exact h1
   have hmcapI : (q.length : Int) ≤ mc := by omega
   clear hm hm2 k3 hp8 hq8
   by_cases hpn : p = []
   ·have hp0 : (p.length : Int) = 0 := by rw [hpn]; rfl
    have hp02 : p.length = 0 := by rw [hpn]; rfl
    have HE : Hid (R = (164, given, E)) := Lib.hid (by rw [HRR.out, if_pos hpn])
    clear hpn
    go_wp2_with (fail)
    go_ret
    rw [HE.out]
    exact HNO.out _ 164 K3.out
   have hp0 : ((p.length : Int) == 0) = false := by have := List.length_pos_iff.2 hpn; simp; omega
   have HFD := Lib.hid (find_any w3 ff sb V given E (H1.out.1.fr.same K3.out) (.slice lp p.length lc) p HL3.out HPS.out.2.1)
   have HPP := Lib.hid hpn
   clear hpn
   go_wp2_with (fail)
   refine HFD.out.mono ?_
   rintro e w4 ⟨⟨v4, rfl, h4, hpe⟩, k4⟩
   unfold FindP at h4
   have K4 := Lib.hid (K3.out.trans' k4)
   have K34 := Lib.hid k4
   clear k4
   by_cases hz : findF E [] p = 0
   case neg =>
    rw [if_neg hz] at h4
    subst h4
    have hzI : ((findF E [] p : Int) != 0) = true := by simp; exact hz
    have HE : Hid (R = (((findF E [] p : Nat) : Int), given, E)) := Lib.hid (by rw [HRR.out, if_neg HPP.out, if_pos hz])
    clear hz hpe
    go_wp2_with (fail)
    go_ret
    rw [HE.out]
    exact HNO.out _ _ K4.out
   case pos =>
   rw [if_pos hz] at h4
   obtain ⟨nv, rfl, hn⟩ := h4
   obtain ⟨x, hx⟩ : ∃ x, ent E p = some x := by
    rcases hpe hz with h | h
    ·exact absurd h HPP.out
    ·exact Option.isSome_iff_exists.1 h
   obtain ⟨hxE, hxp⟩ := ent_mem hx
   have HX := Lib.hid (And.intro hx (And.intro hxE (And.intro hxp (And.intro hz hn))))
   have hnq : numP E p = x.num := numP_of hx HPP.out
   rw [hnq]
   obtain ⟨nx, hnx⟩ : ∃ nx, x.num = nx := ⟨_, rfl⟩
   rw [hnx]
   have HNX := Lib.hid hnx
   have HRA : Hid (R = if p.length < q.length ∧ q.take p.length = p then (164, given, E) else if q = [] then (162, given, E) else if findF E [] q.dropLast ≠ 0 then (((findF E [] q.dropLast : Nat) : Int), given, E) else if isDirP E q.dropLast = false then (163, given, E) else if (ent E q).isSome = true then (162, given, E) else if ((kids E q.dropLast).length = 6 ∧ p.dropLast ≠ q.dropLast) ∨ 8 < q.length + depthF E p then (165, given, E) else tryF n given E given (renE E p q)) := Lib.hid (by rw [HRR.out, if_neg HPP.out, if_neg (by simpa using hz)])
   have HEQ := Lib.hid (fun (hpl : p.length ≤ q.length) W (k : Kept [] w3 W) r (hr : decide (q.take p.length = p) = r) => sequal_any (.slice mp p.length mc) (.slice lp p.length lc) (q.take p.length) p W (StrsAt.kept (HM3.out.cut hpl) k) (StrsAt.kept HL3.out k) r hr)
   clear hx hxE hxp hz hnq hnx hpe hn
   by_cases hin : p.length < q.length ∧ q.take p.length = p
   ·have hlt : (p.length : Int) < q.length := by omega
    have hE1 := HEQ.out (by omega) w4 K34.out true (decide_eq_true hin.2)
    have HE1 := Lib.hid hE1
    have HE : Hid (R = (164, given, E)) := Lib.hid (by rw [HRA.out, if_pos hin])
    clear hin hE1
    go_wp2_with (fail)
    refine HE1.out.mono ?_
    rintro e w5 ⟨rfl, k5⟩
    have K5 := Lib.hid k5
    clear k5
    go_wp2_with (fail)
    go_ret
    rw [HE.out]
    exact HNO.out _ _ (K4.out.trans' K5.out)
   have HIN := Lib.hid hin
   have HRB : Hid (R = if q = [] then (162, given, E) else if findF E [] q.dropLast ≠ 0 then (((findF E [] q.dropLast : Nat) : Int), given, E) else if isDirP E q.dropLast = false then (163, given, E) else if (ent E q).isSome = true then (162, given, E) else if ((kids E q.dropLast).length = 6 ∧ p.dropLast ≠ q.dropLast) ∨ 8 < q.length + depthF E p then (165, given, E) else tryF n given E given (renE E p q)) := Lib.hid (by rw [HRA.out, if_neg hin])
   go_upto_region 14 with (fail)
   go_cut [65] from 66 to 65 (fun v65 wx => v65 = .bool false ∧ Kept [] w4 wx)
   case first =>
    by_cases hlt : p.length < q.length
    ·have hltI : (p.length : Int) < q.length := by omega
     have HE1 := Lib.hid (HEQ.out (by omega) w4 K34.out false (decide_eq_false (fun e => HIN.out ⟨hlt, e⟩)))
     clear hlt hin
     go_wp2_with (fail)
     refine HE1.out.mono ?_
     rintro e w5 ⟨rfl, k5⟩
     have K5 := Lib.hid k5
     clear k5
     go_wp2_with (fail)
     go_meet
     exact ⟨rfl, K5.out⟩
    ·have hltI : ¬ (p.length : Int) < q.length := by omega
     clear hlt hin
     go_wp2_with (fail)
     go_meet
     exact ⟨rfl, Kept.refl _ _⟩
   case rest =>
   obtain ⟨rfl, k5⟩ := hcut
   have K5 := Lib.hid (K4.out.trans' k5)
   have K35 := Lib.hid (K34.out.trans' k5)
   have K45 := Lib.hid k5
   clear k5 hin
   have HCH := Lib.hid (H1.out.1.same K5.out)
   by_cases hqn : q = []
   ·have hq0 : (q.length : Int) = 0 := by rw [hqn]; rfl
    have hq02 : q.length = 0 := by rw [hqn]; rfl
    have HE : Hid (R = (162, given, E)) := Lib.hid (by rw [HRB.out, if_pos hqn])
    clear hqn
    go_wp2_with (fail)
    go_ret
    rw [HE.out]
    exact HNO.out _ 162 K5.out
   have hq0 : ((q.length : Int) == 0) = false := by have := List.length_pos_iff.2 hqn; simp; omega
   have HW := Lib.hid (fwithin_any wc ff sb V given E HCH.out.fr (.slice mp q.length mc) q (StrsAt.kept HM3.out K35.out) HQS.out.2.1 hqn)
   have HQN := Lib.hid hqn
   have HRC : Hid (R = if findF E [] q.dropLast ≠ 0 then (((findF E [] q.dropLast : Nat) : Int), given, E) else if isDirP E q.dropLast = false then (163, given, E) else if (ent E q).isSome = true then (162, given, E) else if ((kids E q.dropLast).length = 6 ∧ p.dropLast ≠ q.dropLast) ∨ 8 < q.length + depthF E p then (165, given, E) else tryF n given E given (renE E p q)) := Lib.hid (by rw [HRB.out, if_neg hqn])
   clear hqn
   go_wp2_with (fail)
   refine HW.out.mono ?_
   rintro e w6 ⟨⟨v6, rfl, h6⟩, k6⟩
   have K6 := Lib.hid (K5.out.trans' k6)
   have K36 := Lib.hid (K35.out.trans' k6)
   have K46 := Lib.hid (K45.out.trans' k6)
   clear k6
   unfold WithinP at h6
   by_cases hz2 : findF E [] q.dropLast = 0
   case neg =>
    rw [if_neg hz2] at h6
    subst h6
    have hzI : ((findF E [] q.dropLast : Int) != 0) = true := by simp; exact hz2
    have HE : Hid (R = (((findF E [] q.dropLast : Nat) : Int), given, E)) := Lib.hid (by rw [HRC.out, if_pos hz2])
    clear hz2
    go_wp2_with (fail)
    go_ret
    rw [HE.out]
    exact HNO.out _ _ K6.out
   case pos =>
   rw [if_pos hz2] at h6
   by_cases hqd : isDirP E q.dropLast = true
   case neg =>
    rw [if_neg hqd] at h6
    subst h6
    have HE : Hid (R = (163, given, E)) := Lib.hid (by rw [HRC.out, if_neg (by simpa using hz2), if_pos (by simpa using hqd)])
    clear hz2 hqd
    go_wp2_with (fail)
    go_ret
    rw [HE.out]
    exact HNO.out _ _ K6.out
   case pos =>
   rw [if_pos hqd] at h6
   obtain ⟨dv, rfl, hens⟩ := h6
   obtain ⟨l2, hl2⟩ : ∃ l, kids E q.dropLast = l := ⟨_, rfl⟩
   obtain ⟨ln2, hln2⟩ : ∃ ln, q.getLastD [] = ln := ⟨_, rfl⟩
   obtain ⟨u2, hu2⟩ : ∃ u, numP E q.dropLast = u := ⟨_, rfl⟩
   rw [hl2] at hens
   rw [hu2, hln2]
   have hsl : SortE l2 := by rw [← hl2]; exact sort_kids H.out.wf.paths _
   have hls : l2.length ≤ 6 := by rw [← hl2]; exact H.out.wf.few _
   have hhas : hasE l2 ln2 = (ent E q).isSome := by rw [← hl2, has_kids, ← hln2, last_snoc HQN.out]
   have HEN := Lib.hid (entered_any w6 dv l2 hens hsl (by omega) ln2)
   rw [hhas] at HEN
   have HRD : Hid (R = if (ent E q).isSome = true then (162, given, E) else if (l2.length = 6 ∧ p.dropLast ≠ q.dropLast) ∨ 8 < q.length + depthF E p then (165, given, E) else tryF n given E given (renE E p q)) := Lib.hid (by rw [HRC.out, if_neg (by simpa using hz2), if_neg (by rw [hqd]; decide), hl2])
   obtain ⟨dp, dc, rfl⟩ : ∃ dp dc, dv = .slice dp l2.length dc := by obtain ⟨a, b, _, c, _⟩ := hens; exact ⟨a, b, c⟩
   have H2 := Lib.hid (And.intro hqd (And.intro hl2 (And.intro hln2 (And.intro hu2 (And.intro hls hens)))))
   have hl2I : (l2.length : Int) ≤ 6 := by omega
   clear hz2 hqd hl2 hln2 hu2 hsl hls hhas hens
   cases hee : (ent E q).isSome with
   | true =>
    rw [hee] at HEN
    have HE : Hid (R = (162, given, E)) := Lib.hid (by rw [HRD.out, if_pos hee])
    clear hee
    go_wp2_with (fail)
    refine HEN.out.mono ?_
    rintro e w7 ⟨rfl, k7⟩
    have K7 := Lib.hid k7
    clear k7
    go_wp2_with (fail)
    go_ret
    rw [HE.out]
    exact HNO.out _ _ (K6.out.trans' K7.out)
   | false =>
   rw [hee] at HEN
   have hqnone : ent E q = none := by simpa using hee
   have HRE : Hid (R = if (l2.length = 6 ∧ p.dropLast ≠ q.dropLast) ∨ 8 < q.length + depthF E p then (165, given, E) else tryF n given E given (renE E p q)) := Lib.hid (by rw [HRD.out, if_neg (by rw [hee]; decide)])
   have HQE := Lib.hid hqnone
   clear hee hqnone
   go_wp2_with (fail)
   refine HEN.out.mono ?_
   rintro e w7 ⟨rfl, k7⟩
   have K7 := Lib.hid (K6.out.trans' k7)
   have K37 := Lib.hid (K36.out.trans' k7)
   have K67 := Lib.hid k7
   have K47 := Lib.hid (K46.out.trans' k7)
   clear k7
   obtain ⟨hx, hxE, hxp, hz, hn⟩ := HX.out
   have hud := up_dir H.out.wf hxE
   rw [hxp] at hud
   obtain ⟨u1, hu1⟩ : ∃ u, numP E p.dropLast = u := ⟨_, rfl⟩
   obtain ⟨ln1, hln1⟩ : ∃ ln, p.getLastD [] = ln := ⟨_, rfl⟩
   obtain ⟨l1, hl1⟩ : ∃ l, kids E p.dropLast = l := ⟨_, rfl⟩
   have HWI := Lib.hid (fwithin_any w7 ff sb V given E (H1.out.1.fr.same K7.out) (.slice lp p.length lc) p (StrsAt.kept HL3.out K37.out) HPS.out.2.1 HPP.out)
   have HWP : Hid (∀ W v, WithinP W v E p → ∃ dp dc, v = .tuple #[I u1, .slice dp l1.length dc, S ln1, I 0] ∧ EnsAt W (.slice dp l1.length dc) l1) := Lib.hid (fun W v h => by
    unfold WithinP at h
    rw [if_pos (findF_up HPP.out hz), if_pos hud, hu1, hln1, hl1] at h
    obtain ⟨d, rfl, he⟩ := h
    have he2 := he
    obtain ⟨a, b, c, rfl, _⟩ := he2
    exact ⟨a, b, rfl, he⟩)
   have hls1 : l1.length ≤ 6 := by rw [← hl1]; exact H.out.wf.few _
   have hsl1 : SortE l1 := by rw [← hl1]; exact sort_kids H.out.wf.paths _
   have hhas1 : hasE l1 ln1 = true := by rw [← hl1, has_kids, ← hln1, last_snoc HPP.out, hx]; rfl
   have hl1I : (l1.length : Int) ≤ 6 := by omega
   have hgv := H.out.gv
   have hub1 := H.out.wf.numP (isDirP_some hud)
   have hub2 := H.out.wf.numP (isDirP_some H2.out.1)
   rw [hu1] at hub1
   rw [H2.out.2.2.2.1] at hub2
   have hu1I : (u1 : Int) ≤ 16777216 := by omega
   have hu2I : (u2 : Int) ≤ 16777216 := by omega
   have huu : u1 = u2 ↔ p.dropLast = q.dropLast := by
    rw [← hu1, ← H2.out.2.2.2.1]
    exact ⟨fun e => numP_inj H.out.wf (isDirP_some hud) (isDirP_some H2.out.1) e, fun e => by rw [e]⟩
   have H3 := Lib.hid (And.intro hud (And.intro hu1 (And.intro hln1 (And.intro hl1 (And.intro hls1 (And.intro hsl1 (And.intro hhas1 (And.intro hub1 (And.intro hub2 huu)))))))))
   clear hx hxE hxp hz hn hud hu1 hln1 hl1 hls1 hsl1 hhas1 hgv hub1 hub2
   go_wp2_with (fail)
   refine HWI.out.mono ?_
   rintro e w8 ⟨⟨v8, rfl, h8⟩, k8⟩
   obtain ⟨ep, ec, rfl, he8⟩ := HWP.out _ _ h8
   have K8 := Lib.hid (K7.out.trans' k8)
   have K38 := Lib.hid (K37.out.trans' k8)
   have K68 := Lib.hid (K67.out.trans' k8)
   have K48 := Lib.hid (K47.out.trans' k8)
   have HE8 := Lib.hid he8
   clear h8 he8 k8
   by_cases h6 : l2.length = 6 ∧ ¬ u1 = u2
   ·have h6b : ((l2.length : Int) == 6) = true := by rw [h6.1]; rfl
    have hub : ((u1 : Int) != (u2 : Int)) = true := by simp; omega
    have HE : Hid (R = (165, given, E)) := Lib.hid (by rw [HRE.out, if_pos (.inl ⟨h6.1, fun e => h6.2 (huu.2 e)⟩)])
    have h6l := h6.1
    clear huu h6
    go_wp2_with (fail)
    go_ret
    rw [HE.out]
    exact HNO.out _ _ K8.out
   have HDP := Lib.hid (deep_any w8 ff sb V given E (H1.out.1.fr.same K8.out) (len_quota H1.out.1) p HPP.out nv (HX.out.2.2.2.2.same K48.out))
   obtain ⟨D, hD⟩ : ∃ D, depthF E p = D := ⟨_, rfl⟩
   rw [hD] at HDP
   have hD8 : D ≤ 8 := by
    rcases depth_at E p with h | ⟨y, hy, r, hr, hrl⟩
    ·omega
    ·have := (H.out.wf.form y hy).2.1
     rw [hr, List.length_append] at this
     omega
   have hDI : (D : Int) ≤ 8 := by omega
   have HDD := Lib.hid (And.intro hD h6)
   have HRG : Hid (R = if 8 < q.length + D then (165, given, E) else tryF n given E given (renE E p q)) := Lib.hid (by
    rw [HRE.out, hD]
    by_cases h9 : 8 < q.length + D
    ·rw [if_pos (.inr h9), if_pos h9]
    ·rw [if_neg (by rintro (⟨a, b⟩ | b); exact h6 ⟨a, fun e => b (huu.1 e)⟩; exact h9 b), if_neg h9])
   clear hD hD8
   go_upto_region 25 with (fail)
   go_cut [125] from 109 to 125 (fun v125 wx => ∃ bb : Bool, v125 = .bool bb ∧ bb = decide (8 < q.length + D) ∧ Kept [] w8 wx)
   case first =>
    clear HRG huu
    by_cases h6c : l2.length = 6
    ·have h6b : ((l2.length : Int) == 6) = true := by rw [h6c]; rfl
     have hue : u1 = u2 := by
      apply Decidable.byContradiction
      intro hc
      exact h6 ⟨h6c, hc⟩
     have hub : ((u1 : Int) != (u2 : Int)) = false := by rw [hue]; simp
     clear hue
     clear h6 h6c
     go_wp2_with (fail)
     refine HDP.out.mono ?_
     rintro e w9 ⟨rfl, k9⟩
     have K9 := Lib.hid k9
     clear k9
     go_wp2_with (fail)
     go_meet
     exact ⟨_, rfl, (by rw [decide_eq_decide]; omega), K9.out⟩
    ·have h6b : ((l2.length : Int) == 6) = false := by simp; omega
     clear h6 h6c
     go_wp2_with (fail)
     refine HDP.out.mono ?_
     rintro e w9 ⟨rfl, k9⟩
     have K9 := Lib.hid k9
     clear k9
     go_wp2_with (fail)
     go_meet
     exact ⟨_, rfl, (by rw [decide_eq_decide]; omega), K9.out⟩
   case rest =>
   obtain ⟨bb, rfl, hbb, k9⟩ := hcut
   have K9 := Lib.hid (K8.out.trans' k9)
   have K69 := Lib.hid (K68.out.trans' k9)
   have K89 := Lib.hid k9
   clear k9
   by_cases h9 : 8 < q.length + D
   ·obtain rfl : bb = true := by rw [hbb]; exact decide_eq_true h9
    have HE : Hid (R = (165, given, E)) := Lib.hid (by rw [HRG.out, if_pos h9])
    clear h9 h6 huu hbb
    go_wp2_with (fail)
    go_ret
    rw [HE.out]
    exact HNO.out _ _ K9.out
   obtain rfl : bb = false := by rw [hbb]; exact decide_eq_false h9
   have HE : Hid (R = tryF n given E given (renE E p q)) := Lib.hid (by rw [HRG.out, if_neg h9])
   have H9 := Lib.hid (And.intro h9 (And.intro h6 huu))
   clear h9 h6 huu hbb
   obtain ⟨k1, hk1⟩ : ∃ k1, 64 * u1 = k1 := ⟨_, rfl⟩
   obtain ⟨k2, hk2⟩ : ∃ k2, 64 * u2 = k2 := ⟨_, rfl⟩
   have em1 : (64 : Int) * (u1 : Int) = (k1 : Int) := by omega
   have em2 : (64 : Int) * (u2 : Int) = (k2 : Int) := by omega
   have hk1I : (k1 : Int) ≤ 1073741824 := by omega
   have hk2I : (k2 : Int) ≤ 1073741824 := by omega
   have HKK := Lib.hid (And.intro hk1 hk2)
   obtain ⟨hx, hxE, hxp, hz, hn⟩ := HX.out
   obtain ⟨hud, hu1, hln1, hl1, hls1, hsl1, hhas1, hub1, hub2, huu⟩ := H3.out
   obtain ⟨hqd, hl2, hln2, hu2, hls, hens⟩ := H2.out
   have hgv := H.out.gv
   have hxn := H.out.wf.num x hxE
   have hpq : ¬ ∃ r, q = x.path ++ r := by
    rintro ⟨r, hr⟩
    rw [hxp] at hr
    by_cases hr0 : r = []
    ·rw [hr0, List.append_nil] at hr
     have := HQE.out
     rw [hr, hx] at this
     cases this
    ·have := List.length_pos_iff.2 hr0
     exact HIN.out ⟨by rw [hr, List.length_append]; omega, by rw [hr, List.take_left]⟩
   obtain ⟨lt, hlt⟩ : ∃ lt, toE E p q = lt := ⟨_, rfl⟩
   have hst : stayE E x.path q.dropLast = lt := by rw [to_stay H.out.wf hxE HQN.out hpq, hxp, hlt]
   have hltS : SortE lt := by rw [← hst]; exact stay_sort H.out.wf _
   have hltN : hasE lt ln2 = false := by
    cases hc : hasE lt ln2 with
    | false => rfl
    | true =>
     unfold hasE at hc
     rw [List.any_eq_true] at hc
     obtain ⟨y, hy, hyn⟩ := hc
     rw [← hst] at hy
     have := stay_new HQN.out HQE.out rfl y hy
     rw [hln2] at this
     exact absurd (by simpa using hyn) this
   have hltk : ∀ y ∈ lt, y ∈ kids E q.dropLast := fun y hy => by
    rw [← hst] at hy
    exact ((stay_mem _ _ _).1 hy).1
   have hltl : lt.length ≤ 6 := by
    rw [← hst]
    exact Nat.le_trans (List.length_filter_le _ _) (H.out.wf.few _)
   have hlt1 : u1 = u2 → lt = delE l1 ln1 := fun e => by
    rw [← hlt]; unfold toE; rw [if_pos (huu.1 e), hl1, hln1]
   have hlt2 : ¬ u1 = u2 → lt = l2 := fun e => by
    rw [← hlt]; unfold toE; rw [if_neg (fun h => e (huu.2 h)), hl2]
   have HWO := Lib.hid (fun W v (hv : EnsAt W v l1) => without_any W v l1 hv hsl1 (by omega) ln1 hhas1)
   obtain ⟨l1', hl1'⟩ : ∃ l', delE l1 ln1 = l' := ⟨_, rfl⟩
   rw [hl1'] at HWO hlt1
   have hl1l : l1'.length ≤ 6 := by rw [← hl1']; exact Nat.le_trans (List.length_filter_le _ _) hls1
   have hrk1 := row_kids H.out.wf (by omega) p.dropLast (l := l1') (fun y hy => .inl (by rw [hl1]; rw [← hl1'] at hy; exact (mem_delE.1 hy).1))
   have HROW1 := Lib.hid (fun W v (h : EnsAt W v l1') => erow_any W v l1' h (by omega) hrk1.1)
   obtain ⟨row1, hrow1⟩ : ∃ row, rowD l1' = row := ⟨_, rfl⟩
   rw [hrow1] at HROW1
   have hrl1 : row1.length ≤ 175 := by rw [← hrow1]; have := hrk1.2; omega
   have HWT := Lib.hid (fun W v (hv : EnsAt W v lt) => with_any W v lt hv hltS (by omega) ln2 nx hltN)
   obtain ⟨l2', hl2'⟩ : ∃ l', insE lt (ln2, nx) = l' := ⟨_, rfl⟩
   rw [hl2'] at HWT
   have hfew : lt.length ≤ 5 := by
    rcases Nat.lt_or_ge lt.length 6 with h | h
    ·omega
    ·exfalso
     by_cases he : u1 = u2
     ·have h1 := hlt1 he
      have : (delE l1 ln1).length < l1.length := by
       unfold delE
       unfold hasE at hhas1
       rw [List.any_eq_true] at hhas1
       obtain ⟨y, hy, hyn⟩ := hhas1
       exact List.length_filter_lt_length_iff_exists.2 ⟨y, hy, by simpa using hyn⟩
      rw [hl1', ← h1] at this
      omega
     ·have h1 := hlt2 he
      have h6 := H9.out.2.1
      exact h6 ⟨by rw [← h1]; omega, he⟩
   have hl2l : l2'.length ≤ 6 := by rw [← hl2', insE_len]; omega
   have hlnl : ln2.length ≤ 24 := by
    have h1 := HQS.out.2.2
    have h2 := last_snoc HQN.out
    refine WX.name_len (List.all_eq_true.1 h1 ln2 ?_)
    rw [← hln2, ← h2]
    simp
   have hrk2 := row_kids H.out.wf (by omega) q.dropLast (l := l2') (fun y hy => by
    rw [← hl2'] at hy
    rcases (mem_insE _ _ _).1 hy with rfl | hy
    ·refine .inr ⟨hlnl, ?_⟩
     show nx ≤ 16777216
     have := HNX.out
     omega
    ·exact .inl (hltk y hy))
   have HROW2 := Lib.hid (fun W v (h : EnsAt W v l2') => erow_any W v l2' h (by omega) hrk2.1)
   obtain ⟨row2, hrow2⟩ : ∃ row, rowD l2' = row := ⟨_, rfl⟩
   rw [hrow2] at HROW2
   have hrl2 : row2.length ≤ 175 := by rw [← hrow2]; have := hrk2.2; omega
   have HFIN : Hid (∀ (W : World) (mb : Nat), wc.heap.size ≤ mb → SetAt W mb (putS (putS [] (k1 : Int) row1) (k2 : Int) row2) → Kept [] wc W → Calls Tryz.prog 49 #[Ptr ff, .map (some mb)] W (OpP w fb sb n V d T z given E R)) := Lib.hid (fun W mb hmb hS kW => by
    rw [HE.out]
    have hkw : Kept [] w1 W := K9.out.trans' kW
    have hOK2 := (SetOK.nil.put (k1 : Int) row1 (by omega) (by omega) (by omega)).put (k2 : Int) row2 (by omega) (by omega) (by omega)
    have hwf := wf_ren H.out.wf hxE HQN.out HQE.out hpq HQS.out.2 hqd (by
     by_cases he : u1 = u2
     ·right; rw [hxp]; exact huu.1 he
     ·left
      rw [hl2]
      have h6 := H9.out.2.1
      rcases Nat.lt_or_ge l2.length 6 with h | h
      ·omega
      ·exact absurd ⟨by omega, he⟩ h6) (fun y hy r hr => by
     rw [hxp] at hr
     have h1 := depth_le hy hr
     have h2 := H9.out.1
     have h3 := HDD.out.1
     omega)
    rw [hxp] at hwf
    refine does_op (V0 := V) (H1.out.1.same hkw) mb _ hS 364 ⟨hOK2.srt, hOK2.ok, Nat.le_trans hOK2.size (by omega)⟩ (by omega) hwf (fun k => ?_) (Nat.le_refl _) (H1.out.2.1.trans hkw (by simp)) (fun x hx => H1.out.2.2 x hx) (Nat.le_trans H1.out.2.1.size hkw.size)
    have := ren_beh H.out.wf hxE HQN.out HQE.out hpq hqd k
    rw [hxp, hu1, hu2, hl1, hln1, hl1', hrow1, hln2, HNX.out, hlt, hl2', hrow2, HKK.out.1, HKK.out.2] at this
    exact this)
   have HLT := Lib.hid (And.intro hlt1 (And.intro hlt2 hens))
   obtain ⟨mb, hmb⟩ : ∃ mb, wc.heap.size = mb := ⟨_, rfl⟩
   have HS0 : Hid (SetAt (wc.alloc (.map #[] 0)) mb []) := Lib.hid (by rw [← hmb]; exact amap_made wc)
   have HMB := Lib.hid hmb
   have HK0 : Hid (Kept [] wc (wc.alloc (.map #[] 0))) := Lib.hid ((Kept.refl [] wc).alloc _)
   clear hk1 hk2 hx hxE hxp hz hn hud hu1 hln1 hl1 hls1 hsl1 hhas1 hub1 hub2 huu hqd hl2 hln2 hu2 hls hens hgv hxn hpq hlt hst hltS hltN hltk hltl hlt1 hlt2 hl1' hl1l hrk1 hrow1 hl2' hfew hl2l hlnl hrk2 hrow2
   go_wp2_with (fail)
   clear hmb
   refine (HWO.out _ _ ((EnsAt.same HE8.out K89.out).same HK0.out)).mono ?_
   rintro e wa ⟨⟨va, rfl, ha⟩, ka⟩
   have KA := Lib.hid (And.intro ha.at (HK0.out.trans' ka))
   have KA0 := Lib.hid ka
   clear ha ka
   go_wp2_with (fail)
   refine (HROW1.out wa va KA.out.1).mono ?_
   rintro e wb ⟨rfl, kb⟩
   have KB := Lib.hid (KA.out.2.trans' kb)
   have KB0 := Lib.hid (KA0.out.trans' kb)
   clear kb
   go_wp2_with (fail)
   refine (sput_any wb mb [] (HS0.out.same KB0.out) (by simp) (k1 : Int) ⟨by omega, by omega⟩ row1 (by omega)).mono ?_
   rintro e wd ⟨rfl, sd, kd⟩
   have KD := Lib.hid (KB.out.new1 kd (by rw [HMB.out]; exact Nat.le_refl _))
   have HSD := Lib.hid sd
   clear sd kd
   have he1 := (EnsAt.same HE8.out K89.out).same KD.out
   have he2 := (EnsAt.same HLT.out.2.2 K69.out).same KD.out
   have HEE := Lib.hid (And.intro he1 he2)
   clear he1 he2
   go_upto_if 137 with (fail)
   go_cut [18] from 135 to 140 (fun v18 wx => ∃ dv, v18 = dv ∧ EnsAt wx dv lt ∧ Kept [] wd wx)
   case first =>
    by_cases he : u1 = u2
    ·have heb : ((u1 : Int) == (u2 : Int)) = true := by rw [he]; simp
     have HLE := Lib.hid (HLT.out.1 he)
     clear he
     go_wp2_with (fail)
     refine (HWO.out _ _ HEE.out.1).mono ?_
     rintro e we ⟨⟨ve, rfl, hve⟩, ke⟩
     have KE := Lib.hid (And.intro hve.at ke)
     clear hve ke
     go_wp2_with (fail)
     go_meet
     exact ⟨_, rfl, by rw [HLE.out]; exact KE.out.1, KE.out.2⟩
    ·have heb : ((u1 : Int) == (u2 : Int)) = false := by simp; omega
     have HLE := Lib.hid (HLT.out.2.1 he)
     clear he
     go_wp2_with (fail)
     go_meet
     exact ⟨_, rfl, by rw [HLE.out]; exact HEE.out.2, Kept.refl _ _⟩
   case rest =>
   obtain ⟨dvt, rfl, hdt, kt⟩ := hcut
   have KT := Lib.hid (And.intro hdt (KD.out.trans' kt))
   have HST := Lib.hid (HSD.out.same kt)
   clear hdt kt
   go_wp2_with (fail)
   refine (HWT.out _ _ KT.out.1).mono ?_
   rintro e wf ⟨⟨vf, rfl, hf⟩, kf⟩
   have KF := Lib.hid (And.intro hf.at kf)
   clear hf kf
   go_wp2_with (fail)
   refine (HROW2.out wf vf KF.out.1).mono ?_
   rintro e wg ⟨rfl, kg⟩
   have KG := Lib.hid (KF.out.2.trans' kg)
   clear kg
   go_wp2_with (fail)
   refine (sput_any wg mb _ (HST.out.same KG.out) (by unfold putS; rw [len_ins]; show ([] : CM).length + 1 < 1000; simp) (k2 : Int) ⟨by omega, by omega⟩ row2 (by omega)).mono ?_
   rintro e wh ⟨rfl, sh, kh⟩
   have HFN := Lib.hid (HFIN.out wh mb (by rw [HMB.out]; exact Nat.le_refl _) sh ((KT.out.2.trans' KG.out).new1 kh (by rw [HMB.out]; exact Nat.le_refl _)))
   clear sh kh
   go_wp2_with (fail)
   refine HFN.out.mono ?_
   rintro e wi ⟨r, T', rfl, hP2⟩
   have HPP2 := Lib.hid hP2
   clear hP2
   go_wp2_with (fail)
   go_ret
   exact ⟨r, T', rfl, HPP2.out⟩
  ·have HX := Lib.hid (OpP.gone (n := n) (sb := sb) (d := d) H.out.st.sorted H.out.st.stk.small.2.2.1 hz hpf (by omega) H.out.sim ((K0.out.mono (by simp)).trans' hk1) (fun x hx => (hT1 x hx).imp id (fun h => by have := K0.out.size; omega)) R)
   clear hq hz hpf hk1 hT1
   go_wp2_with (fail)
   go_ret
   exact HX.out
end Go.Proofs.YteplbljjlbdhaaaGreatDoor
