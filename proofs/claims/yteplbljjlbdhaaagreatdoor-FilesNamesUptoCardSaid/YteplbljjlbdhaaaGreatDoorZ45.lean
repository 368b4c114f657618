/- Walks and lemmas on the program of this seat, used by its statements; each theorem bears its own conditions. -/
import Derived.Test.YteplbljjlbdhaaaGreatDoorZ44
namespace Go.Proofs.YteplbljjlbdhaaaGreatDoor
open Go.RowKit
set_option linter.unusedVariables false
set_option linter.unusedSimpArgs false
set_option linter.unusedSectionVars false
set_option maxHeartbeats 16000000
set_option maxRecDepth 100000
theorem find_ent (E : List Nd) : ∀ (r so : List Nm), findF E so r = 0 → r ≠ [] → (ent E (so ++ r)).isSome = true
 | [], so, _, h => absurd rfl h
 | n :: r, so, h, _ => by
  by_cases h1 : isDirP E so = false
  ·rw [findF_not h1] at h; cases h
  ·have h1 : isDirP E so = true := by simpa using h1
   cases h2 : (ent E (so ++ [n])).isSome with
   | false => rw [findF_none h1 h2] at h; cases h
   | true =>
    rw [findF_snoc_ok h1 h2] at h
    by_cases hr : r = []
    ·subst hr; exact h2
    ·have := find_ent E r _ h hr
     rwa [List.append_assoc] at this
theorem rgot_any (w : World) (mb n given : Nat) (v : Value) (E : List Nd) (h : DF w mb n given v E) (s : List UInt8) (hs : s.length ≤ 1048576) :
  Calls Tryz.prog 50 #[Ptr mb, S s, .bool false] w fun e w' => e = .returned (I (fileF E s).1) ∧ Kept [] w w' := by
 have HI := Lib.hid (rispath_any s hs w)
 obtain ⟨R, hR⟩ : ∃ R, (fileF E s).1 = R := ⟨_, rfl⟩
 have HR := Lib.hid hR
 rw [hR]
 cases hp : WX.pathF s with
 | none =>
  rw [hp] at HI
  have HE : Hid (R = 160) := Lib.hid (by rw [← HR.out]; unfold fileF; rw [hp])
  clear h hR hp hs
  go_enter Tryz.func50, Tryz.ntmps50
  go_wp2_with (fail)
  refine HI.out.mono ?_
  rintro e w1 ⟨rfl, k1⟩
  have K1 := Lib.hid k1
  clear k1
  go_wp2_with (fail)
  go_ret
  exact ⟨by rw [HE.out]; rfl, K1.out⟩
 | some p =>
  rw [hp] at HI
  obtain ⟨hsp, hpv⟩ := pathT_of hp
  have HF := Lib.hid (fun W (k : Kept [] w W) => rfind_any (h.at'.same k) (by have := h.few; omega) h.wf p hpv)
  have HD := Lib.hid (fun W (k : Kept [] w W) => rdir_any (h.at'.same k) (by have := h.few; omega) h.wf p hpv)
  rw [← hsp] at HF HD
  have HE : Hid (R = if findF E [] p ≠ 0 then ((findF E [] p : Nat) : Int) else if isDirP E p = true then 163 else 0) := Lib.hid (by
   rw [← HR.out]
   unfold fileF
   rw [hp]
   simp only
   by_cases h1 : findF E [] p = 0
   ·have h1' : ¬ findF E [] p ≠ 0 := by simpa using h1
    rw [if_neg h1', if_neg h1']
    by_cases h2 : isDirP E p = true
    ·rw [if_pos h2, if_pos h2]
    ·rw [if_neg h2, if_neg h2]
     cases h3 : ent E p with
     | some x => rfl
     | none =>
      exfalso
      have h0 : p ≠ [] := by rintro rfl; exact h2 rfl
      have := find_ent E p [] h1 h0
      rw [List.nil_append, h3] at this
      cases this
   ·rw [if_pos h1, if_pos h1])
  obtain ⟨z, hz⟩ : ∃ z, findF E [] p = z := ⟨_, rfl⟩
  obtain ⟨b, hb⟩ : ∃ b, isDirP E p = b := ⟨_, rfl⟩
  rw [hz] at HF HE
  rw [hb] at HD HE
  clear h hR hp hs hsp hpv hz hb
  go_enter Tryz.func50, Tryz.ntmps50
  go_wp2_with (fail)
  refine HI.out.mono ?_
  rintro e w1 ⟨rfl, k1⟩
  have K1 := Lib.hid k1
  clear k1
  go_wp2_with (fail)
  refine (HF.out w1 K1.out).mono ?_
  rintro e w2 ⟨rfl, k2⟩
  have K2 := Lib.hid (K1.out.trans' k2)
  clear k2
  by_cases hz : z = 0
  case neg =>
   have hz1 : ((z : Int) == 0) = false := by simp; omega
   have HX : Hid (R = z) := Lib.hid (by rw [HE.out, if_pos hz])
   clear hz
   go_wp2_with (fail)
   go_ret
   exact ⟨by rw [HX.out]; rfl, K2.out⟩
  case pos =>
  subst hz
  cases b with
  | true =>
   have HX : Hid (R = 163) := Lib.hid (by rw [HE.out, if_neg (by simp), if_pos rfl])
   go_wp2_with (fail)
   refine (HD.out w2 K2.out).mono ?_
   rintro e w3 ⟨rfl, rfl⟩
   go_wp2_with (fail)
   go_ret
   exact ⟨by rw [HX.out]; rfl, K2.out⟩
  | false =>
   have HX : Hid (R = 0) := Lib.hid (by rw [HE.out, if_neg (by simp), if_neg (by decide)])
   go_wp2_with (fail)
   refine (HD.out w2 K2.out).mono ?_
   rintro e w3 ⟨rfl, rfl⟩
   go_wp2_with (fail)
   go_ret
   exact ⟨by rw [HX.out]; rfl, K2.out⟩
theorem rtrunc_any (w : World) (mb n given : Nat) (v : Value) (E : List Nd) (h : DF w mb n given v E) (s : List UInt8) (hs : s.length ≤ 1048576) (at0 : Int) (ha : I64 at0) :
  Calls Tryz.prog 18 #[Ptr mb, S s, I at0] w (RDP w mb n v (truncF n given E s at0)) := by
 have HG := Lib.hid (rgot_any w mb n given v E h s hs)
 have H := Lib.hid h
 obtain ⟨R, hR⟩ : ∃ R, truncF n given E s at0 = R := ⟨_, rfl⟩
 have HR := Lib.hid hR
 rw [hR]
 obtain ⟨r, hr⟩ : ∃ r, (fileF E s).1 = r := ⟨_, rfl⟩
 rw [hr] at HG
 have HRR : Hid (R = if r ≠ 0 then (r, given, E) else if at0 < 0 ∨ ((fileF E s).2.data.length : Int) < at0 then (165, given, E) else tryF n given E given (setE E ⟨(fileF E s).2.path, (fileF E s).2.num, (fileF E s).2.dir, (fileF E s).2.data.take at0.toNat⟩)) := Lib.hid (by rw [← HR.out]; unfold truncF; rw [hr])
 obtain ⟨c0, c1, c2⟩ := h.at'.cells
 obtain ⟨ha1, ha2⟩ := ha
 by_cases hr0 : r = 0
 case neg =>
  have hrb : (r != 0) = true := by simpa using hr0
  have HE : Hid (R = (r, given, E)) := Lib.hid (by rw [HRR.out, if_pos hr0])
  clear h hR hr hr0 c0 c1 c2 hs
  go_enter Tryz.func18, Tryz.ntmps18
  go_wp2_with (fail)
  refine HG.out.mono ?_
  rintro e w1 ⟨rfl, k1⟩
  have K1 := Lib.hid k1
  clear k1
  go_wp2_with (fail)
  go_ret
  rw [HE.out]
  exact RDP.no H.out.at' K1.out r
 case pos =>
 subst hr0
 obtain ⟨p, hp, hf0, hxd, hxe, hxE⟩ := file_mem (E := E) (s := s) hr
 obtain ⟨x, hx⟩ : ∃ x, (fileF E s).2 = x := ⟨_, rfl⟩
 rw [hx] at hxe hxE HRR
 obtain ⟨hsp, hpv⟩ := pathT_of hp
 obtain ⟨i, hai, hi⟩ := atF_some hxe
 obtain ⟨hil, hix⟩ := List.getElem?_eq_some_iff.1 hi
 have hxp := (ent_mem hxe).2
 have hxdir : x.dir = false := by rw [← isDirP_of h.wf hxe]; exact hxd
 have HA := Lib.hid (fun W (k : Kept [] w W) => rat_any W mb n given v E (h.at'.same k) (by have := h.few; omega) (fun x hx => h.wf.pv hx) p hpv)
 rw [← hsp, hai] at HA
 have hat := h.at'.2
 obtain ⟨lp, lc, lb, rfl, hcap, hlp, hcells⟩ := hat
 have hpe := hlp (by intro h; rw [h] at hil; simp at hil)
 subst hpe
 obtain ⟨-, -, d2⟩ := hcells i hil
 rw [hix] at d2
 have hilI : (i : Int) < E.length := by omega
 have hL4 := (h.wf.data x hxE).1
 have HPU := Lib.hid (fun W (k : Kept [] w W) D => rputE_any W (.slice (some ⟨lb, 0, none⟩) E.length lc) E (h.at'.2.same k) (by have := h.few; omega) (fun y hy => h.wf.pv hy) ⟨x.path, x.num, x.dir, D⟩ (by show PV x.path; rw [hxp]; exact hpv))
 simp only [hxp, ← hsp, hxdir] at HPU
 have HWF := Lib.hid (fun D (hD : D.length ≤ 4096) => wf_set h.wf hxE (x' := ⟨x.path, x.num, x.dir, D⟩) rfl rfl rfl hD (by intro hh; rw [show (⟨x.path, x.num, x.dir, D⟩ : Nd).dir = x.dir from rfl, hxdir] at hh; cases hh))
 simp only [hxp, hxdir] at HWF
 obtain ⟨DD, hDD⟩ : ∃ DD, x.data = DD := ⟨_, rfl⟩
 rw [hDD] at d2 hL4 HRR
 rw [hxp, hxdir] at HRR
 have hEI : (E.length : Int) ≤ 900 := by have := h.few; omega
 have hDI : (DD.length : Int) ≤ 4096 := by omega
 have HC := Lib.hid (And.intro c0 (And.intro c1 (And.intro c2 d2)))
 have HRS : Hid (R = if at0 < 0 ∨ (DD.length : Int) < at0 then (165, given, E) else tryF n given E given (setE E ⟨p, x.num, false, DD.take at0.toNat⟩)) := Lib.hid (by rw [HRR.out, if_neg (by simp)])
 have hsl : ∀ D, (setE E ⟨p, x.num, false, D⟩).length ≤ 1000 := fun D => by
  unfold setE
  rw [List.length_append]
  have h1 := List.length_filter_le (fun y : Nd => decide (y.path ≠ p)) E
  have := h.few
  simp only [List.length_singleton]
  omega
 have HSL := Lib.hid hsl
 clear h hR hr hx hp hf0 hxd hxe hxE hsp hpv hai hi hil hix hxp hxdir hcap hlp hcells hDD c0 c1 c2 d2 hs hsl hL4
 go_enter Tryz.func18, Tryz.ntmps18
 go_wp2_with (fail)
 refine HG.out.mono ?_
 rintro e w1 ⟨rfl, k1⟩
 have x0 := k1.cellOf HC.out.1
 have x1 := k1.cellOf HC.out.2.1
 have x2 := k1.cellOf HC.out.2.2.1
 have x3 := k1.cellOf HC.out.2.2.2
 have K1 := Lib.hid k1
 clear k1
 go_wp2_with (fail)
 go_quiet ((go_at_call 51; exact Calls.quiet_of_same (HA.out _ (K1.out.drewN _))))
 by_cases c1 : at0 < 0
 ·have HE : Hid (R = (165, given, E)) := Lib.hid (by rw [HRS.out, if_pos (.inl c1)])
  go_wp2_with (fail)
  go_ret
  rw [HE.out]
  exact RDP.no H.out.at' (by first | exact K1.out.drewN _ | exact K1.out.drew | exact K1.out) 165
 have c1b : decide (at0 < 0) = false := decide_eq_false c1
 by_cases c2 : (DD.length : Int) < at0
 ·have HE : Hid (R = (165, given, E)) := Lib.hid (by rw [HRS.out, if_pos (.inr c2)])
  go_wp2_with (fail)
  go_ret
  rw [HE.out]
  exact RDP.no H.out.at' (by first | exact K1.out.drewN _ | exact K1.out.drew | exact K1.out) 165
 obtain ⟨A, rfl⟩ : ∃ A : Nat, at0 = A := ⟨at0.toNat, by omega⟩
 have hAL : A ≤ DD.length := by omega
 have hAI : (A : Int) ≤ DD.length := by omega
 have hA0 : (0 : Int) ≤ A := by omega
 have c2b : decide (DD.length < A) = false := decide_eq_false (by omega)
 have HE : Hid (R = tryF n given E given (setE E ⟨p, x.num, false, DD.take A⟩)) := Lib.hid (by rw [HRS.out, if_neg (by omega)]; rfl)
 have hD2l : (DD.take A).length ≤ 4096 := by rw [List.length_take]; omega
 obtain ⟨E2, hE2⟩ : ∃ E2, setE E ⟨p, x.num, false, DD.take A⟩ = E2 := ⟨_, rfl⟩
 have HP2 := Lib.hid (fun W (k : Kept [] w W) => HPU.out W k (DD.take A))
 have hwf := HWF.out (DD.take A) hD2l
 have hl2 := HSL.out (DD.take A)
 rw [hE2] at HP2 hwf hl2 HE
 have HTR := Lib.hid (fun W1 (k1 : Kept [] w W1) (v' : Value) lo (own : EDOwn W1 lo v' E2) (hlo : w.heap.size ≤ lo) => rtry_new (given' := given) H.out k1 own hlo (Kept.refl _ W1) hl2 (by have := H.out.gv; omega) hwf)
 clear c1 c2 hD2l hE2 hwf hl2 x3
 go_upto_region 7 with (fail)
 go_region_law (first
  | (go_simp; go_at_call 43; (with_reducible refine (HP2.out _ (by first | exact K1.out | exact K1.out.drew | exact K1.out.drew.drew | exact K1.out.drewN _ | exact (K1.out.drewN _).drew)).mono ?_); rintro e w5 ⟨⟨v5, rfl, own5⟩, k5⟩; obtain ⟨p5, c5, rfl⟩ := own_form own5; have k5' := (show Kept [] w1 _ from by first | exact k5 | exact (Kept.refl [] w1).drew.trans' k5 | exact (Kept.refl [] w1).drew.drew.trans' k5 | exact ((Kept.refl [] w1).drewN _).trans' k5 | exact ((Kept.refl [] w1).drewN _).drew.trans' k5); have z0 := k5'.cellOf x0; have z1 := k5'.cellOf x1; have z2 := k5'.cellOf x2)
  | (go_simp; go_at_call 42; (with_reducible refine (HTR.out _ (K1.out.trans' k5') _ _ own5 (by first | exact K1.out.size | exact K1.out.drew.size | exact K1.out.drew.drew.size | exact (K1.out.drewN _).size | exact (K1.out.drewN _).drew.size)).mono ?_); rintro e w6 ⟨rfl, hP⟩))
 all_goals
  have HP := Lib.hid hP
  clear hP
  go_wp2
  go_ret
  rw [HE.out]
  exact ⟨rfl, HP.out⟩
theorem rwrite_any (w : World) (mb n given : Nat) (v : Value) (E : List Nd) (h : DF w mb n given v E) (s : List UInt8) (hs : s.length ≤ 1048576) (at0 : Int) (ha : I64 at0) (t : List UInt8) (ht : t.length ≤ 4611686018427387904) :
  Calls Tryz.prog 16 #[Ptr mb, S s, I at0, S t] w (RDP w mb n v (writeF n given E s at0 t)) := by
 have HG := Lib.hid (rgot_any w mb n given v E h s hs)
 have H := Lib.hid h
 obtain ⟨R, hR⟩ : ∃ R, writeF n given E s at0 t = R := ⟨_, rfl⟩
 have HR := Lib.hid hR
 rw [hR]
 obtain ⟨r, hr⟩ : ∃ r, (fileF E s).1 = r := ⟨_, rfl⟩
 rw [hr] at HG
 have HRR : Hid (R = if r ≠ 0 then (r, given, E) else if at0 < 0 ∨ ((fileF E s).2.data.length : Int) < at0 ∨ 128 < t.length ∨ 4096 - at0 < (t.length : Int) then (165, given, E) else tryF n given E given (setE E ⟨(fileF E s).2.path, (fileF E s).2.num, (fileF E s).2.dir, wrB (fileF E s).2.data at0.toNat t⟩)) := Lib.hid (by rw [← HR.out]; unfold writeF; rw [hr])
 obtain ⟨c0, c1, c2⟩ := h.at'.cells
 obtain ⟨ha1, ha2⟩ := ha
 by_cases hr0 : r = 0
 case neg =>
  have hrb : (r != 0) = true := by simpa using hr0
  have HE : Hid (R = (r, given, E)) := Lib.hid (by rw [HRR.out, if_pos hr0])
  clear h hR hr hr0 c0 c1 c2 hs
  go_enter Tryz.func16, Tryz.ntmps16
  go_wp2_with (fail)
  refine HG.out.mono ?_
  rintro e w1 ⟨rfl, k1⟩
  have K1 := Lib.hid k1
  clear k1
  go_wp2_with (fail)
  go_ret
  rw [HE.out]
  exact RDP.no H.out.at' K1.out r
 case pos =>
 subst hr0
 obtain ⟨p, hp, hf0, hxd, hxe, hxE⟩ := file_mem (E := E) (s := s) hr
 obtain ⟨x, hx⟩ : ∃ x, (fileF E s).2 = x := ⟨_, rfl⟩
 rw [hx] at hxe hxE HRR
 obtain ⟨hsp, hpv⟩ := pathT_of hp
 obtain ⟨i, hai, hi⟩ := atF_some hxe
 obtain ⟨hil, hix⟩ := List.getElem?_eq_some_iff.1 hi
 have hxp := (ent_mem hxe).2
 have hxdir : x.dir = false := by rw [← isDirP_of h.wf hxe]; exact hxd
 have HA := Lib.hid (fun W (k : Kept [] w W) => rat_any W mb n given v E (h.at'.same k) (by have := h.few; omega) (fun x hx => h.wf.pv hx) p hpv)
 rw [← hsp, hai] at HA
 have hat := h.at'.2
 obtain ⟨lp, lc, lb, rfl, hcap, hlp, hcells⟩ := hat
 have hpe := hlp (by intro h; rw [h] at hil; simp at hil)
 subst hpe
 obtain ⟨-, -, d2⟩ := hcells i hil
 rw [hix] at d2
 have hilI : (i : Int) < E.length := by omega
 have hL4 := (h.wf.data x hxE).1
 have HPU := Lib.hid (fun W (k : Kept [] w W) D => rputE_any W (.slice (some ⟨lb, 0, none⟩) E.length lc) E (h.at'.2.same k) (by have := h.few; omega) (fun y hy => h.wf.pv hy) ⟨x.path, x.num, x.dir, D⟩ (by show PV x.path; rw [hxp]; exact hpv))
 simp only [hxp, ← hsp, hxdir] at HPU
 have HWF := Lib.hid (fun D (hD : D.length ≤ 4096) => wf_set h.wf hxE (x' := ⟨x.path, x.num, x.dir, D⟩) rfl rfl rfl hD (by intro hh; rw [show (⟨x.path, x.num, x.dir, D⟩ : Nd).dir = x.dir from rfl, hxdir] at hh; cases hh))
 simp only [hxp, hxdir] at HWF
 obtain ⟨DD, hDD⟩ : ∃ DD, x.data = DD := ⟨_, rfl⟩
 rw [hDD] at d2 hL4 HRR
 rw [hxp, hxdir] at HRR
 have hEI : (E.length : Int) ≤ 900 := by have := h.few; omega
 have hDI : (DD.length : Int) ≤ 4096 := by omega
 have HC := Lib.hid (And.intro c0 (And.intro c1 (And.intro c2 d2)))
 have HRS : Hid (R = if at0 < 0 ∨ (DD.length : Int) < at0 ∨ 128 < t.length ∨ 4096 - at0 < (t.length : Int) then (165, given, E) else tryF n given E given (setE E ⟨p, x.num, false, wrB DD at0.toNat t⟩)) := Lib.hid (by rw [HRR.out, if_neg (by simp)])
 have hsl : ∀ D, (setE E ⟨p, x.num, false, D⟩).length ≤ 1000 := fun D => by
  unfold setE
  rw [List.length_append]
  have h1 := List.length_filter_le (fun y : Nd => decide (y.path ≠ p)) E
  have := h.few
  simp only [List.length_singleton]
  omega
 have HSL := Lib.hid hsl
 clear h hR hr hx hp hf0 hxd hxe hxE hsp hpv hai hi hil hix hxp hxdir hcap hlp hcells hDD c0 c1 c2 d2 hs hsl hL4
 go_enter Tryz.func16, Tryz.ntmps16
 go_wp2_with (fail)
 refine HG.out.mono ?_
 rintro e w1 ⟨rfl, k1⟩
 have x0 := k1.cellOf HC.out.1
 have x1 := k1.cellOf HC.out.2.1
 have x2 := k1.cellOf HC.out.2.2.1
 have x3 := k1.cellOf HC.out.2.2.2
 have K1 := Lib.hid k1
 clear k1
 go_wp2_with (fail)
 go_quiet ((go_at_call 51; exact Calls.quiet_of_same (HA.out _ (K1.out.drewN _))))
 by_cases c1 : at0 < 0
 ·have HE : Hid (R = (165, given, E)) := Lib.hid (by rw [HRS.out, if_pos (.inl c1)])
  go_wp2_with (fail)
  go_ret
  rw [HE.out]
  exact RDP.no H.out.at' (by first | exact K1.out.drewN _ | exact K1.out.drew | exact K1.out) 165
 have c1b : decide (at0 < 0) = false := decide_eq_false c1
 by_cases c2 : (DD.length : Int) < at0
 ·have HE : Hid (R = (165, given, E)) := Lib.hid (by rw [HRS.out, if_pos (.inr (.inl c2))])
  go_wp2_with (fail)
  go_ret
  rw [HE.out]
  exact RDP.no H.out.at' (by first | exact K1.out.drewN _ | exact K1.out.drew | exact K1.out) 165
 by_cases c3 : 128 < t.length
 ·have c3I : (128 : Int) < t.length := by omega
  have HE : Hid (R = (165, given, E)) := Lib.hid (by rw [HRS.out, if_pos (.inr (.inr (.inl c3)))])
  clear c3
  go_wp2_with (fail)
  go_ret
  rw [HE.out]
  exact RDP.no H.out.at' (by first | exact K1.out.drewN _ | exact K1.out.drew | exact K1.out) 165
 have c3I : ¬ (128 : Int) < t.length := by omega
 have htI : (t.length : Int) ≤ 128 := by omega
 by_cases c4 : 4096 - at0 < (t.length : Int)
 ·have c4I : (4096 : Int) < at0 + t.length := by omega
  have HE : Hid (R = (165, given, E)) := Lib.hid (by rw [HRS.out, if_pos (.inr (.inr (.inr c4)))])
  clear c4 c3
  go_wp2_with (fail)
  go_ret
  rw [HE.out]
  exact RDP.no H.out.at' (by first | exact K1.out.drewN _ | exact K1.out.drew | exact K1.out) 165
 have c4I : ¬ (4096 : Int) < at0 + t.length := by omega
 obtain ⟨A, rfl⟩ : ∃ A : Nat, at0 = A := ⟨at0.toNat, by omega⟩
 have hAL : A ≤ DD.length := by omega
 have hAI : (A : Int) ≤ DD.length := by omega
 have hA0 : (0 : Int) ≤ A := by omega
 have c2b : decide (DD.length < A) = false := decide_eq_false (by omega)
 have HE : Hid (R = tryF n given E given (setE E ⟨p, x.num, false, wrB DD A t⟩)) := Lib.hid (by rw [HRS.out, if_neg (by omega)]; rfl)
 have hD2l : (wrB DD A t).length ≤ 4096 := by rw [wrB_len DD t A hAL]; omega
 obtain ⟨NX, hNX⟩ : ∃ NX, wrB DD A t = NX := ⟨_, rfl⟩
 rw [hNX] at hD2l HE
 obtain ⟨E2, hE2⟩ : ∃ E2, setE E ⟨p, x.num, false, NX⟩ = E2 := ⟨_, rfl⟩
 have HP2 := Lib.hid (fun W (k : Kept [] w W) => HPU.out W k NX)
 have hwf := HWF.out NX hD2l
 have hl2 := HSL.out NX
 rw [hE2] at HP2 hwf hl2 HE
 have HTR := Lib.hid (fun W1 (k1 : Kept [] w W1) (v' : Value) lo (own : EDOwn W1 lo v' E2) (hlo : w.heap.size ≤ lo) => rtry_new (given' := given) H.out k1 own hlo (Kept.refl _ W1) hl2 (by have := H.out.gv; omega) hwf)
 have hsum : ((DD.take A ++ t).length : Int) ≤ 4096 := by rw [List.length_append, List.length_take]; omega
 have hpl : (DD.take A ++ t).length = A + t.length := by rw [List.length_append, List.length_take]; omega
 have HNX : Hid (DD.take A ++ t ++ DD.drop (A + t.length) = NX) := Lib.hid hNX
 have HAL := Lib.hid hAL
 clear c1 c2 c3 c4 hD2l hE2 hwf hl2 x3 hNX
 go_upto_if 57 with (fail)
 go_cut [11] from 53 to 63 (fun v11 wx => v11 = S NX ∧ Kept [] w1 wx)
 case first =>
  have hmin : min A DD.length = A := by have := HAL.out; omega
  by_cases hlt : A + t.length < DD.length
  ·have hltI : (A : Int) + t.length < DD.length := by omega
   have hle : (A : Int) + t.length ≤ DD.length := by omega
   go_wp2_with (fail)
   go_meet
   exact ⟨by rw [← HNX.out, List.append_assoc], by first | exact Kept.refl _ _ | exact (Kept.refl _ _).drew | exact (Kept.refl _ _).drewN _⟩
  ·have hltI : ¬ (A : Int) + t.length < DD.length := by omega
   have HN2 : Hid (NX = DD.take A ++ t) := Lib.hid (by rw [← HNX.out, List.drop_eq_nil_of_le (by omega), List.append_nil])
   go_wp2_with (fail)
   go_meet
   exact ⟨by rw [HN2.out], by first | exact Kept.refl _ _ | exact (Kept.refl _ _).drew | exact (Kept.refl _ _).drewN _⟩
 case rest =>
 obtain ⟨rfl, kc⟩ := hcut
 have y0 := kc.cellOf x0
 have y1 := kc.cellOf x1
 have y2 := kc.cellOf x2
 have KC := Lib.hid (K1.out.trans' kc)
 clear kc x0 x1 x2
 go_upto_region 10 with (fail)
 go_region_law (first
  | (go_simp; go_at_call 43; (with_reducible refine (HP2.out _ (by first | exact KC.out | exact KC.out.drew | exact KC.out.drew.drew | exact KC.out.drewN _ | exact (KC.out.drewN _).drew)).mono ?_); rintro e w5 ⟨⟨v5, rfl, own5⟩, k5⟩; obtain ⟨p5, c5, rfl⟩ := own_form own5; have k5' := (show Kept [] wc _ from by first | exact k5 | exact (Kept.refl [] wc).drew.trans' k5 | exact (Kept.refl [] wc).drew.drew.trans' k5 | exact ((Kept.refl [] wc).drewN _).trans' k5 | exact ((Kept.refl [] wc).drewN _).drew.trans' k5); have z0 := k5'.cellOf y0; have z1 := k5'.cellOf y1; have z2 := k5'.cellOf y2)
  | (go_simp; go_at_call 42; (with_reducible refine (HTR.out _ (KC.out.trans' k5') _ _ own5 (by first | exact KC.out.size | exact KC.out.drew.size | exact KC.out.drew.drew.size | exact (KC.out.drewN _).size | exact (KC.out.drewN _).drew.size)).mono ?_); rintro e w6 ⟨rfl, hP⟩))
 all_goals
  have HP := Lib.hid hP
  clear hP
  go_wp2
  go_ret
  rw [HE.out]
  exact ⟨rfl, HP.out⟩
end Go.Proofs.YteplbljjlbdhaaaGreatDoor
