/- Walks and lemmas on the program of this seat, used by its statements; each theorem bears its own conditions. -/
import Derived.Test.YtgdioalhlmnhhaaDoorHRP
import Derived.Test.YtgdioalhlmnhhaaDoorHRH
import Derived.Handy
import Derived.Deep.CutRange
namespace Go.Proofs.YtgdioalhlmnhhaaDoor
open Go.RowKit
set_option linter.unusedVariables false
set_option linter.unusedSimpArgs false
/-! ### HeaderBack -/
theorem laidDev_len : ∀ ds : List (List UInt8), (∀ d ∈ ds, d.length ≤ 24) → (WX.laidL (ds.map WX.devLn)).length ≤ 32 * ds.length
  | [], _ => by simp [WX.laidL]
  | d :: ds, h => by
    have ih := laidDev_len ds fun x hx => h x (by simp [hx])
    have h0 := h d (by simp)
    unfold WX.laidL at ih ⊢
    simp only [List.map_cons, List.flatMap_cons, List.length_append, List.length_cons, List.length_nil]
    have : (WX.devLn d).length = 7 + d.length := by unfold WX.devLn; rw [List.length_append]; rfl
    omega
theorem print_short {h : WX.Hr} {t : List UInt8} (hp : WX.printF h = (t, 0)) : t.length ≤ 3000 ∧ 0 < t.length := by
  have hok : WX.okH h = true := by
    rcases hx : WX.okH h with _ | _
    · unfold WX.printF at hp; rw [if_pos hx] at hp; cases hp
    · rfl
  obtain ⟨g1, g2, g3, g4, g5⟩ := WX.okH_parts hok
  have ht : t = WX.headT h := by
    unfold WX.printF at hp
    rw [if_neg (by simp [hok])] at hp
    split at hp
    · cases hp
    · split at hp
      · cases hp
      · cases hp; rfl
  obtain ⟨nm, ds, sz⟩ := h
  rw [ht, headT_split]
  have h1 := name_le g1
  have h2 := laidDev_len ds fun d hd => name_le (g5 d hd)
  have h3 := WX.dec_len6 sz.toNat (by simp only at g3; omega)
  simp only [List.length_append, List.length_cons, List.length_nil]
  have h4 : WX.nameP.length = 5 := rfl
  have h5 : WX.sizeP.length = 5 := rfl
  simp only at h1 h2 g4
  omega
theorem parseF_len (s : List UInt8) : (WX.parseF s).1.nm.length ≤ 4611686018427387904 ∧ (∀ d ∈ (WX.parseF s).1.ds, d.length ≤ 4611686018427387904) ∧ (WX.parseF s).1.ds.length ≤ 8 := by
  refine ⟨?_, ?_, parseF_few s⟩
  all_goals
    cases hp : WX.parseF s with
    | mk h c =>
      by_cases hc : c = 0
      · subst hc
        have h1 := WX.print_parse hp
        have hok : WX.okH h = true := by
          rcases hx : WX.okH h with _ | _
          · unfold WX.printF at h1; rw [if_pos hx] at h1; cases h1
          · rfl
        obtain ⟨g1, g2, g3, g4, g5⟩ := WX.okH_parts hok
        first
        | (have := name_le g1; show h.nm.length ≤ _; omega)
        | (intro d hd; have := name_le (g5 d hd); omega)
      · have h1 := @WX.parse_err s (by rw [hp]; exact hc)
        rw [hp] at h1
        simp only at h1
        rw [h1]; simp [WX.zeroR]
set_option maxRecDepth 100000 in
set_option maxHeartbeats 4000000 in
theorem headerBack_any (nm : List UInt8) (ds : List (List UInt8)) (sz : Int) (v : Value) (s : List UInt8) (n : Int) (w : World) (hd : TextsAt w v ds) (hnl : nm.length ≤ 4611686018427387904) (hdl : ∀ d ∈ ds, d.length ≤ 4611686018427387904) (hz1 : -9223372036854775808 ≤ sz) (hz2 : sz ≤ 9223372036854775807)
    (hsl : s.length ≤ 4611686018427387904) (hn1 : -9223372036854775808 ≤ n) (hn2 : n ≤ 9223372036854775807) (hT : TH w) :
    Calls Tryd.prog 9 #[.agg #[S nm, v, I sz], S s, I n] w fun e w' => e = .returned (.bool true) ∧ Kept [] w w' := by
  have HT := Lib.hid hT
  have K0 : Kept [] w (w.alloc (.cells #[S nm, v, I sz] HrT)) := (Kept.refl _ _).alloc _
  obtain ⟨r, hr⟩ : ∃ r, WX.printF ⟨nm, ds, sz⟩ = r := ⟨_, rfl⟩
  obtain ⟨t, en⟩ := r
  have hd0 := hd
  have hsl' : (s.length : Int) ≤ 4611686018427387904 := by omega
  obtain ⟨p, c, rfl, hl, hcell⟩ := hd
  have hl' : (ds.length : Int) ≤ 9223372036854775807 := by omega
  obtain ⟨A, hA⟩ : ∃ A, w.alloc (.cells #[S nm, .slice p ds.length c, I sz] HrT) = A := ⟨_, rfl⟩
  have HA : Hid (Kept [] w A ∧ A.heap[w.heap.size]? = some (.cells #[S nm, .slice p ds.length c, I sz] HrT (0, 0)) ∧ TextsAt A (.slice p ds.length c) ds ∧ TH A) := Lib.hid (by rw [← hA]; exact ⟨K0, heap_new w _, hd0.kept K0, HT.out.kept K0⟩)
  have HP := Lib.hid (print_any ⟨nm, ds, sz⟩ (.slice p ds.length c) A HA.out.2.2.1 hnl hdl hz1 hz2 HA.out.2.2.2.tabs HA.out.2.2.2.pow (t, en) hr)
  have HR := Lib.hid hr
  have HZ := Lib.hid (And.intro hz1 hz2)
  clear hd0 hcell hr hnl hdl hz1 hz2 hT K0 hsl
  obtain ⟨x0, x1, x2⟩ := cells3r HA.out.2.1
  go_enter Tryd.func9, Tryd.ntmps9
  go_wp2_with (fail)
  clear hA
  refine HP.out.mono ?_
  rintro e w1 ⟨rfl, k1⟩
  have H1 : Hid (Kept [] A w1 ∧ w1.heap[w.heap.size]? = some (.cells #[S nm, .slice p ds.length c, I sz] HrT (0, 0))) := Lib.hid ⟨k1, k1.at HA.out.2.1 (by simp)⟩
  obtain ⟨y0, y1, y2⟩ := cells3r H1.out.2
  clear k1 x0 x1 x2
  go_upto_if 21 with (fail)
  go_cut [9, 10] from 21 to 53 (fun _ _ wx => Kept [] A wx)
  case first =>
    by_cases he : en = 0
    · subst he
      have HPP := Lib.hid (WX.parse_print HR.out)
      obtain ⟨hs1, hs2⟩ := print_short HR.out
      have hs1' : (t.length : Int) ≤ 3000 := by omega
      have hs2' : (0 : Int) < t.length := by omega
      have HS1 := Lib.hid hs1
      clear hs1
      go_wp2_with (fail)
      refine (hparse_any t w1 HS1.out (HA.out.2.2.2.kept H1.out.1) (⟨nm, ds, sz⟩, 0) HPP.out).mono ?_
      rintro e w2 ⟨v2, rfl, o2, k2⟩
      simp only at o2 ⊢
      obtain ⟨p2, c2, rfl⟩ := o2.form
      have k2' := H1.out.1.trans' k2
      obtain ⟨E, hE⟩ : ∃ E, w2.alloc (.cells #[S nm, .slice p2 ds.length c2, I sz] HrT) = E := ⟨_, rfl⟩
      have kE : Kept [] w2 E := by rw [← hE]; exact (Kept.refl _ _).alloc _
      have HE : Hid (E.heap[w2.heap.size]? = some (.cells #[S nm, .slice p2 ds.length c2, I sz] HrT (0, 0)) ∧ TextsAt E (.slice p2 ds.length c2) ds ∧ Kept [] A E ∧ E.heap[w.heap.size]? = some (.cells #[S nm, .slice p ds.length c, I sz] HrT (0, 0))) := Lib.hid
        ⟨by rw [← hE]; exact heap_new w2 _, (o2.texts hl).kept kE, k2'.trans' kE, (k2.trans' kE).at H1.out.2 (by simp)⟩
      obtain ⟨b0, b1, b2⟩ := cells3r HE.out.1
      obtain ⟨d0, d1, d2⟩ := cells3r HE.out.2.2.2
      clear o2 k2 k2' kE y0 y1 y2
      go_wp2_with (fail)
      refine (sameR_any ⟨nm, ds, sz⟩ ⟨nm, ds, sz⟩ _ _ E HE.out.2.1 (HA.out.2.2.1.kept HE.out.2.2.1) HZ.out.1 HZ.out.2 HZ.out.1 HZ.out.2 true (sameR_refl _)).mono ?_
      rintro e w3 ⟨rfl, k3⟩
      have H3 := Lib.hid (HE.out.2.2.1.trans' k3)
      clear k3 b0 b1 b2 d0 d1 d2 hE
      go_wp2_with (fail)
      obtain ⟨m, hm⟩ : ∃ m, (max 0 (min n ((t.length : Int) - 1))).toNat = m := ⟨_, rfl⟩
      have hml : m < t.length := by rw [← hm]; omega
      obtain ⟨r4, hr4⟩ : ∃ r, WX.parseF (t.take m) = r := ⟨_, rfl⟩
      have hne := WX.parse_cut HR.out m hml
      rw [hr4] at hne
      obtain ⟨h4, c4⟩ := r4
      have hnb : (c4 == 0) = false := by rw [beq_eq_false_iff_ne]; exact hne
      rw [hm]
      refine (hparse_any (t.take m) w3 (by simp; omega) (HA.out.2.2.2.kept H3.out) (h4, c4) hr4).mono ?_
      rintro e w4 ⟨v4, rfl, o4, k4⟩
      have H4 := Lib.hid (H3.out.trans' k4)
      clear k4 o4 hr4 hm hml hne
      go_wp2_with (fail)
      go_meet
      exact H4.out
    · have heb : (en == 0) = false := by rw [beq_eq_false_iff_ne]; exact he
      go_wp2_with (fail)
      go_meet
      exact H1.out.1
  case rest =>
  have HX := Lib.hid hcut
  clear hcut y0 y1 y2
  obtain ⟨wx, hwx⟩ : ∃ wx, wx = wc := ⟨_, rfl⟩
  subst hwx
  by_cases hlen : s.length ≤ 3000
  · have hlen' : ¬ (s.length : Int) > 3000 := by omega
    obtain ⟨r, hr⟩ : ∃ r, WX.parseF s = r := ⟨_, rfl⟩
    have HPF := Lib.hid hr
    have HSZ := Lib.hid (parseF_sz s)
    have HS := Lib.hid hlen
    have HERR := Lib.hid (@WX.parse_err s)
    have HLEN := Lib.hid (parseF_len s)
    rw [hr] at HSZ HERR HLEN
    obtain ⟨⟨nm2, ds2, sz2⟩, c2⟩ := r
    clear hr hlen
    go_wp2_with (fail)
    refine (hparse_any s wx HS.out (HA.out.2.2.2.kept HX.out) (⟨nm2, ds2, sz2⟩, c2) HPF.out).mono ?_
    rintro e w2 ⟨v2, rfl, o2, k2⟩
    simp only at o2 ⊢
    obtain ⟨p2, q2, rfl⟩ := o2.form
    obtain ⟨E, hE⟩ : ∃ E, w2.alloc (.cells #[S nm2, .slice p2 ds2.length q2, I sz2] HrT) = E := ⟨_, rfl⟩
    have kE : Kept [] w2 E := by rw [← hE]; exact (Kept.refl _ _).alloc _
    have HE : Hid (E.heap[w2.heap.size]? = some (.cells #[S nm2, .slice p2 ds2.length q2, I sz2] HrT (0, 0)) ∧ TextsAt E (.slice p2 ds2.length q2) ds2 ∧ Kept [] A E) := Lib.hid
      ⟨by rw [← hE]; exact heap_new w2 _, (o2.texts (by have : ds2.length ≤ 8 := HLEN.out.2.2; omega)).kept kE, (HX.out.trans' k2).trans' kE⟩
    obtain ⟨b0, b1, b2⟩ := cells3r HE.out.1
    clear o2 k2 kE
    by_cases hc : c2 = 0
    · subst hc
      have HPR := Lib.hid (WX.print_parse HPF.out)
      go_wp2_with (fail)
      refine (print_any ⟨nm2, ds2, sz2⟩ _ E HE.out.2.1 HLEN.out.1 HLEN.out.2.1 HSZ.out.1 HSZ.out.2 (HA.out.2.2.2.kept HE.out.2.2).tabs (HA.out.2.2.2.kept HE.out.2.2).pow (s, 0) HPR.out).mono ?_
      rintro e w3 ⟨rfl, k3⟩
      have H3 := Lib.hid (HE.out.2.2.trans' k3)
      clear k3 b0 b1 b2 hE
      go_wp2_with (fail)
      refine (fixed_any w3 (HA.out.2.2.2.kept H3.out)).mono ?_
      rintro e w4 ⟨rfl, k4⟩
      have H4 := Lib.hid ((HA.out.1.trans' H3.out).trans' k4)
      clear k4
      go_wp2_with (fail)
      go_ret
      exact ⟨rfl, H4.out⟩
    · have hcb : (c2 == 0) = false := by rw [beq_eq_false_iff_ne]; exact hc
      have hz := HERR.out hc
      simp only [WX.zeroR] at hz
      injection hz with e1 e2 e3
      subst e1 e2 e3
      go_wp2_with (fail)
      rw [show w2.alloc (Obj.cells #[Value.string { data := #[] }, Value.slice p2 0 q2, Value.int IntKind.i64 0] 53) = E from hE]
      refine (sameR_any ⟨[], [], 0⟩ ⟨[], [], 0⟩ _ nilV E HE.out.2.1 ⟨none, 0, rfl, by simp, fun h => absurd rfl h⟩ (by decide) (by decide) (by decide) (by decide) true (sameR_refl _)).mono ?_
      rintro e w3 ⟨rfl, k3⟩
      have H3 := Lib.hid (HE.out.2.2.trans' k3)
      clear k3 b0 b1 b2 hE
      go_wp2_with (fail)
      refine (fixed_any w3 (HA.out.2.2.2.kept H3.out)).mono ?_
      rintro e w4 ⟨rfl, k4⟩
      have H4 := Lib.hid ((HA.out.1.trans' H3.out).trans' k4)
      clear k4
      go_wp2_with (fail)
      go_ret
      exact ⟨rfl, H4.out⟩
  · have hlen' : (s.length : Int) > 3000 := by omega
    clear hlen
    go_wp2_with (fail)
    refine (fixed_any wx (HA.out.2.2.2.kept HX.out)).mono ?_
    rintro e w4 ⟨rfl, k4⟩
    have H4 := Lib.hid ((HA.out.1.trans' HX.out).trans' k4)
    clear k4
    go_wp2_with (fail)
    go_ret
    exact ⟨rfl, H4.out⟩
end Go.Proofs.YtgdioalhlmnhhaaDoor
