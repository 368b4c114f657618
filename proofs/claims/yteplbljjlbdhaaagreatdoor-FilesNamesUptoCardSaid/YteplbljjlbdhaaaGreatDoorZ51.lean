/- Walks and lemmas on the program of this seat, used by its statements; each theorem bears its own conditions. -/
import Derived.Test.YteplbljjlbdhaaaGreatDoorZ50
namespace Go.Proofs.YteplbljjlbdhaaaGreatDoor
open Go.RowKit
set_option linter.unusedVariables false
set_option linter.unusedSimpArgs false
set_option linter.unusedSectionVars false
set_option maxHeartbeats 16000000
set_option maxRecDepth 100000
theorem listF_at (E : List Nd) {p : List Nm} (hp : PV p) (hf : findF E [] p = 0) (hd : isDirP E p = true) : listF E (pathT p) = (0, (kids E p).map (·.1)) := by
 unfold listF
 rw [path_T hp]
 simp only
 rw [hf, if_neg (by simp), if_pos hd]
theorem nameB_len {n : Nm} (h : WX.nameB n = true) : n.length ≤ 24 := WX.name_len h
theorem wp_quiet_class {P : Program} {id : Nat} {Q : Exit → Act → World → Prop} {a : Act} {w : World} {l : List Oper} (C : World → Prop) (hm : P.follows .mixedOrders = true) (hB : Region.lexB .any l.toArray = true) (hC : C { w with drawn := w.drawn + 1 })
  (h : ∀ Q' : Act → Prop, (∀ a', (∀ w', C w' → Q .normal a' w') → Q' a') → wpQuiet P l.toArray C Q' l a) : (Code.region id l.toArray true).wp P Q a w :=
 wp_region_quiet (C := C) hm hB hC (by simpa using h _ fun _ h => h)
def NamedP (ff given : Nat) (E : List Nd) (p : List Nm) : Prop :=
 ∀ w, RdF w ff given E → findF E [] p = 0 → isDirP E p = true → Calls Tryz.prog 6 #[Ptr ff, S (pathT p), I p.length] w fun e w' => e = .returned (.bool true) ∧ Kept [] w w'
theorem named_step {ff given : Nat} {E : List Nd} (p : List Nm) (hp : PV p) (IH : ∀ nm : Nm, PV (p ++ [nm]) → NamedP ff given E (p ++ [nm])) : NamedP ff given E p := by
 intro w h hf hd
 have hwf := h.wf
 have hpl := pathT_len hp
 have HLI := Lib.hid (rf_list h (pathT p) (by omega))
 rw [listF_at E hp hf hd] at HLI
 have hl6 := hwf.few p
 have hroot := pathT_root hp
 have H := Lib.hid (And.intro h (And.intro hwf (And.intro hp IH)))
 have hp8 : (p.length : Int) ≤ 8 := by have := hp.1; omega
 have HKL := Lib.hid (show ((kids E p).map (·.1)).length = (kids E p).length by rw [List.length_map])
 have hsrt := sort_kids hwf.paths p
 have HNS0 : ∀ j (hj : j < (kids E p).length), (∃ x ∈ E, x.path = p ++ [((kids E p)[j]).1]) ∧ ∀ i, (hi : i + 1 = j) → ltB ((kids E p)[j]).1 ((kids E p)[i]'(by omega)).1 = false ∧ (((kids E p)[j]).1 == ((kids E p)[i]'(by omega)).1) = false := by
  intro j hj
  refine ⟨?_, fun i hi => ?_⟩
  ·obtain ⟨x, hx, h1, _⟩ := mem_kids.1 (List.getElem_mem hj)
   exact ⟨x, hx, h1⟩
  ·have h1 := List.pairwise_iff_getElem.1 hsrt i j (by omega) hj (by omega)
   exact ⟨ltB_asymm h1, by simpa using fun e => ltB_ne h1 e.symm⟩
 obtain ⟨ns, hns⟩ : ∃ ns, (kids E p).map (·.1) = ns := ⟨_, rfl⟩
 rw [hns] at HLI HKL
 have HNS : Hid (∀ j (hj : j < ns.length), (∃ x ∈ E, x.path = p ++ [ns[j]]) ∧ ∀ i, (hi : i + 1 = j) → ltB ns[j] (ns[i]'(by omega)) = false ∧ (ns[j] == ns[i]'(by omega)) = false) := Lib.hid (by
  subst hns
  intro j hj
  simp only [List.getElem_map]
  exact HNS0 j (by simpa using hj))
 have hn6 : ns.length ≤ 6 := by rw [HKL.out]; exact hl6
 have hn6I : (ns.length : Int) ≤ 6 := by omega
 clear h hf hd hwf hl6 hsrt hns HKL IH HNS0
 obtain ⟨pt, hpt⟩ : ∃ pt, pathT p = pt := ⟨_, rfl⟩
 rw [hpt] at HLI hpl hroot ⊢
 have hplI : (pt.length : Int) ≤ 201 := by omega
 obtain ⟨L, hL⟩ : ∃ L, p.length = L := ⟨_, rfl⟩
 rw [hL] at hp8 ⊢
 have HPT0 := Lib.hid (And.intro hpt (And.intro hL hroot))
 clear hpt hL hroot
 go_enter Tryz.func6, Tryz.ntmps6
 go_wp2_with (fail)
 refine HLI.out.mono ?_
 rintro e w1 ⟨⟨lv, rfl, hst, hq⟩, k1⟩
 obtain ⟨lp, lc, rfl, hlc, hlb, hnn, hcl⟩ := hst
 have HCL := Lib.hid hcl
 have K1 := Lib.hid k1
 have hlcI : (ns.length : Int) ≤ lc := by omega
 clear hcl k1 hq HLI hnn
 go_wp2_with (fail)
 go_loopw [9] (fun v9 wr => ∃ i : Nat, v9 = I i ∧ i ≤ ns.length ∧ Kept [] w1 wr) (fun v9 _ => ns.length - (intOf v9).toNat)
 case atStart => exact ⟨0, rfl, by omega, Kept.refl _ _⟩
 case round =>
  obtain ⟨i, rfl, hi, hk⟩ := hrel
  have KR := Lib.hid hk
  by_cases hlt : i < ns.length
  ·have hltI : (i : Int) < ns.length := by omega
   obtain ⟨lb, lo, rfl, hcell⟩ := HCL.out (by intro h; rw [h] at hlt; simp at hlt)
   have ci := hk.cellOf (hcell i hlt)
   rw [List.getD_eq_getElem?_getD, List.getElem?_eq_getElem hlt] at ci
   simp only [Option.getD_some] at ci
   obtain ⟨⟨x, hxE, hxp⟩, hord⟩ := HNS.out i hlt
   have HORD : Hid (∀ k (hk1 : k + 1 = i), ∃ nk, wr.cell? ⟨lb, lo + k, none⟩ = some (S nk) ∧ ltB ns[i] nk = false ∧ (ns[i] == nk) = false) := Lib.hid (fun k hk1 => by
    have ck := hk.cellOf (hcell k (by omega))
    rw [List.getD_eq_getElem?_getD, List.getElem?_eq_getElem (by omega)] at ck
    simp only [Option.getD_some] at ck
    exact ⟨_, ck, hord k hk1⟩)
   have hpx : PV (p ++ [ns[i]]) := by rw [← hxp]; exact H.out.2.1.pv hxE
   have hnb : WX.nameB ns[i] = true := List.all_eq_true.1 hpx.2 _ (by simp)
   have hlw := (H.out.1.same K1.out).same hk
   have HDI := Lib.hid (fun W (k : Kept [] wr W) => rf_dir (hlw.same k) (pathT (p ++ [ns[i]])) (by have := pathT_len hpx; omega))
   rw [← hxp, dirF_in H.out.2.1 hxE, hxp] at HDI
   have HRE : Hid (∀ W, Kept [] wr W → x.dir = true → Calls Tryz.prog 6 #[Ptr ff, S (pathT (p ++ [ns[i]])), I ((L : Int) + 1)] W fun e w' => e = .returned (.bool true) ∧ Kept [] W w') := Lib.hid (fun W k hdr => by
    have h5 := H.out.2.2.2 ns[i] hpx W (hlw.same k) (by rw [← hxp]; exact find_in H.out.2.1 hxE) (by rw [← hxp, isDirP_of H.out.2.1 (ent_of H.out.2.1.paths hxE)]; exact hdr)
    rw [List.length_append, HPT0.out.2.1] at h5
    exact h5)
   have HSI := Lib.hid (fun W (k : Kept [] wr W) => rf_size (hlw.same k) (pathT (p ++ [ns[i]])) (by have := pathT_len hpx; omega))
   have HRI := Lib.hid (fun W (k : Kept [] wr W) => rf_read (hlw.same k) (pathT (p ++ [ns[i]])) (by have := pathT_len hpx; omega) 0 5000 ⟨by decide, by decide⟩ ⟨by decide, by decide⟩)
   have HFX : Hid (x.dir = false → fileF E (pathT (p ++ [ns[i]])) = (0, x) ∧ readF E (pathT (p ++ [ns[i]])) 0 5000 = (x.data, 0)) := Lib.hid (fun hdr => by
    rw [← hxp]
    exact ⟨fileF_in H.out.2.1 hxE hdr, readF_in H.out.2.1 hxE hdr⟩)
   have hdl := (H.out.2.1.data x hxE).1
   have hdlI : (x.data.length : Int) ≤ 4096 := by omega
   have HNM := Lib.hid (fun W (k : Kept [] wr W) => name_at ns[i] true W hnb (by have := nameB_len hnb; omega) (hlw.same k).2)
   have hnl := nameB_len hnb
   have hnlI : (ns[i].length : Int) ≤ 24 := by omega
   have HPT : Hid (pathT (p ++ [ns[i]]) = if p = [] then 47 :: ns[i] else pt ++ (47 :: ns[i])) := Lib.hid (by
    rw [pathT_snoc, ← HPT0.out.1]
    unfold pathT
    by_cases h0 : p = []
    ·rw [h0]; rfl
    ·rw [if_neg h0, if_neg h0])
   obtain ⟨pn, hpn⟩ : ∃ pn, pathT (p ++ [ns[i]]) = pn := ⟨_, rfl⟩
   rw [hpn] at HDI HRE HSI HRI HFX HPT
   obtain ⟨nm, hnm⟩ : ∃ nm, ns[i] = nm := ⟨_, rfl⟩
   rw [hnm] at ci HNM hnl hnlI HPT HORD
   have HCI := Lib.hid ci
   clear hk hord hxp hxE hpx hnb hlw hpn hcell HCL hnm
   go_upto_region 7 with (fail)
   go_cut [61] from 40 to 61 (fun v61 wx => v61 = .bool false ∧ Kept [] wr wx)
   case first =>
    by_cases hi0 : i = 0
    ·have hi00 : (0 : Int) ≤ (i : Int) := by omega
     have HG : Hid (decide (0 < i) = false) := Lib.hid (decide_eq_false (by omega))
     have HB : Hid (∀ W, Kept [] wr W → W.cell? ⟨lb, lo + i, none⟩ = some (S nm)) := Lib.hid (fun W k => k.cellOf HCI.out)
     clear hi0
     refine wp_quiet_class (fun W => W.cell? ⟨lb, lo + i, none⟩ = some (S nm) ∧ Kept [] wr W) (by kernel_rfl) (by kernel_rfl) ⟨HB.out _ (Kept.refl _ _).drew, (Kept.refl _ _).drew⟩ fun Q' hQ' => ?_
     refine wpQuiet_step (fun K hK => ?_)
     rw [if_pos (by rfl)]
     apply Exists.intro
     refine ⟨fun w8 hw8 => ?_, hK _ ?_⟩
     ·obtain ⟨hc8, k8⟩ := hw8
      go_simp
      rfl
     clear hK K
     simp only [Act.put, List.setIfInBounds_toArray, List.set_cons_zero, List.set_cons_succ]
     refine wpQuiet_step (fun K hK => ?_)
     rw [if_pos (by rfl)]
     apply Exists.intro
     refine ⟨fun w8 hw8 => ?_, hK _ ?_⟩
     ·obtain ⟨hc8, k8⟩ := hw8
      go_simp
      rfl
     clear hK K
     simp only [Act.put, List.setIfInBounds_toArray, List.set_cons_zero, List.set_cons_succ]
     refine wpQuiet_step (fun K hK => ?_)
     rw [if_pos (by rfl)]
     apply Exists.intro
     refine ⟨fun w8 hw8 => ?_, hK _ ?_⟩
     ·obtain ⟨hc8, k8⟩ := hw8
      go_simp
      rfl
     clear hK K
     simp only [Act.put, List.setIfInBounds_toArray, List.set_cons_zero, List.set_cons_succ]
     refine wpQuiet_step (fun K hK => ?_)
     rw [if_pos (by rfl)]
     apply Exists.intro
     refine ⟨fun w8 hw8 => ?_, hK _ ?_⟩
     ·obtain ⟨hc8, k8⟩ := hw8
      go_simp
      rfl
     clear hK K
     simp only [Act.put, List.setIfInBounds_toArray, List.set_cons_zero, List.set_cons_succ]
     refine wpQuiet_step (fun K hK => ?_)
     rw [if_pos (by rfl)]
     apply Exists.intro
     refine ⟨fun w8 hw8 => ?_, hK _ ?_⟩
     ·obtain ⟨hc8, k8⟩ := hw8
      go_simp
      refine (HNM.out _ k8).mono ?_
      rintro e w9 ⟨rfl, k9⟩
      exact ⟨rfl, HB.out _ (k8.trans' k9), k8.trans' k9⟩
     clear hK K
     simp only [Act.put, List.setIfInBounds_toArray, List.set_cons_zero, List.set_cons_succ]
     refine wpQuiet_step (fun K hK => ?_)
     rw [if_pos (by rfl)]
     apply Exists.intro
     refine ⟨fun w8 hw8 => ?_, hK _ ?_⟩
     ·obtain ⟨hc8, k8⟩ := hw8
      go_simp
      rfl
     clear hK K
     simp only [Act.put, List.setIfInBounds_toArray, List.set_cons_zero, List.set_cons_succ]
     refine wpQuiet_step (fun K hK => ?_)
     rw [if_pos (by rfl)]
     apply Exists.intro
     refine ⟨fun w8 hw8 => ?_, hK _ ?_⟩
     ·obtain ⟨hc8, k8⟩ := hw8
      go_simp
      rfl
     clear hK K
     simp only [Act.put, List.setIfInBounds_toArray, List.set_cons_zero, List.set_cons_succ]
     refine wpQuiet_step (fun K hK => ?_)
     rw [if_pos (by rfl)]
     apply Exists.intro
     refine ⟨fun w8 hw8 => ?_, hK _ ?_⟩
     ·obtain ⟨hc8, k8⟩ := hw8
      go_simp
      rfl
     clear hK K
     simp only [Act.put, List.setIfInBounds_toArray, List.set_cons_zero, List.set_cons_succ]
     refine wpQuiet_step (fun K hK => ?_)
     rw [if_pos (by rfl)]
     apply Exists.intro
     refine ⟨fun w8 hw8 => ?_, hK _ ?_⟩
     ·obtain ⟨hc8, k8⟩ := hw8
      go_simp
      rfl
     clear hK K
     simp only [Act.put, List.setIfInBounds_toArray, List.set_cons_zero, List.set_cons_succ]
     refine wpQuiet_step (fun K hK => ?_)
     rw [if_pos (by rfl)]
     apply Exists.intro
     refine ⟨fun w8 hw8 => ?_, hK _ ?_⟩
     ·obtain ⟨hc8, k8⟩ := hw8
      go_simp
      rfl
     clear hK K
     simp only [Act.put, List.setIfInBounds_toArray, List.set_cons_zero, List.set_cons_succ]
     refine wpQuiet_step (fun K hK => ?_)
     rw [if_neg (fun h => by rw [HG.out] at h; exact Bool.false_ne_true h)]
     refine hK _ ?_
     clear hK K
     simp only [Act.put, List.setIfInBounds_toArray, List.set_cons_zero, List.set_cons_succ]
     refine wpQuiet_step (fun K hK => ?_)
     rw [if_neg (fun h => by rw [HG.out] at h; exact Bool.false_ne_true h)]
     refine hK _ ?_
     clear hK K
     simp only [Act.put, List.setIfInBounds_toArray, List.set_cons_zero, List.set_cons_succ]
     refine wpQuiet_step (fun K hK => ?_)
     rw [if_neg (fun h => by rw [HG.out] at h; exact Bool.false_ne_true h)]
     refine hK _ ?_
     clear hK K
     simp only [Act.put, List.setIfInBounds_toArray, List.set_cons_zero, List.set_cons_succ]
     refine wpQuiet_step (fun K hK => ?_)
     rw [if_neg (fun h => by rw [HG.out] at h; exact Bool.false_ne_true h)]
     refine hK _ ?_
     clear hK K
     simp only [Act.put, List.setIfInBounds_toArray, List.set_cons_zero, List.set_cons_succ]
     refine wpQuiet_step (fun K hK => ?_)
     rw [if_neg (fun h => by rw [HG.out] at h; exact Bool.false_ne_true h)]
     refine hK _ ?_
     clear hK K
     simp only [Act.put, List.setIfInBounds_toArray, List.set_cons_zero, List.set_cons_succ]
     refine wpQuiet_step (fun K hK => ?_)
     rw [if_neg (fun h => by rw [HG.out] at h; exact Bool.false_ne_true h)]
     refine hK _ ?_
     clear hK K
     simp only [Act.put, List.setIfInBounds_toArray, List.set_cons_zero, List.set_cons_succ]
     refine wpQuiet_step (fun K hK => ?_)
     rw [if_neg (fun h => by rw [HG.out] at h; exact Bool.false_ne_true h)]
     refine hK _ ?_
     clear hK K
     simp only [Act.put, List.setIfInBounds_toArray, List.set_cons_zero, List.set_cons_succ]
     refine wpQuiet_step (fun K hK => ?_)
     rw [if_neg (fun h => by rw [HG.out] at h; exact Bool.false_ne_true h)]
     refine hK _ ?_
     clear hK K
     simp only [Act.put, List.setIfInBounds_toArray, List.set_cons_zero, List.set_cons_succ]
     refine wpQuiet_step (fun K hK => ?_)
     rw [if_neg (fun h => by rw [HG.out] at h; exact Bool.false_ne_true h)]
     refine hK _ ?_
     clear hK K
     simp only [Act.put, List.setIfInBounds_toArray, List.set_cons_zero, List.set_cons_succ]
     refine wpQuiet_step (fun K hK => ?_)
     rw [if_neg (fun h => by rw [HG.out] at h; exact Bool.false_ne_true h)]
     refine hK _ ?_
     clear hK K
     simp only [Act.put, List.setIfInBounds_toArray, List.set_cons_zero, List.set_cons_succ]
     simp only [HG.out]
     refine wpQuiet_step (fun K hK => ?_)
     rw [if_pos (by rfl)]
     apply Exists.intro
     refine ⟨fun w8 hw8 => ?_, hK _ ?_⟩
     ·obtain ⟨hc8, k8⟩ := hw8
      go_simp
      rfl
     clear hK K
     simp only [Act.put, List.setIfInBounds_toArray, List.set_cons_zero, List.set_cons_succ]
     refine wpQuiet_step (fun K hK => ?_)
     rw [if_pos (by rfl)]
     apply Exists.intro
     refine ⟨fun w8 hw8 => ?_, hK _ ?_⟩
     ·obtain ⟨hc8, k8⟩ := hw8
      go_simp
      rfl
     clear hK K
     simp only [Act.put, List.setIfInBounds_toArray, List.set_cons_zero, List.set_cons_succ]
     refine wpQuiet_nil (hQ' _ ?_)
     clear hQ' Q'
     rintro w8 ⟨hc8, k8⟩
     go_wp2
     go_meet
     exact ⟨rfl, k8⟩
    ·obtain ⟨k, rfl⟩ : ∃ k, i = k + 1 := ⟨i - 1, by omega⟩
     obtain ⟨nk, ck, o1, o2⟩ := HORD.out k rfl
     have e1 : ((k + 1 : Nat) : Int) = (k : Int) + 1 := rfl
     simp only [e1]
     clear e1
     have hpos : (0 : Int) < (k : Int) + 1 := by omega
     have hk00 : (0 : Int) ≤ (k : Int) + 1 := by omega
     have hk01 : (0 : Int) ≤ (k : Int) := by omega
     have hkw : IntKind.i64.wrap (k : Int) = k := IntWalk.i64_in _ (by omega)
     have hkl : (k : Int) < ns.length := by omega
     have hkl1 : (k : Int) + 1 < ns.length := by omega
     have hkl2 : (k : Int) + 1 - 1 = k := by omega
     have HB : Hid (∀ W, Kept [] wr W → W.cell? ⟨lb, lo + (k + 1), none⟩ = some (S nm) ∧ W.cell? ⟨lb, lo + k, none⟩ = some (S nk)) := Lib.hid (fun W kk => ⟨kk.cellOf HCI.out, kk.cellOf ck⟩)
     clear ck
     go_region_held3 (fun w' => w'.cell? ⟨lb, lo + (k + 1), none⟩ = some (S nm) ∧ w'.cell? ⟨lb, lo + k, none⟩ = some (S nk) ∧ Kept [] wr w') (first | exact ⟨(HB.out _ (Kept.refl _ _).drew).1, (HB.out _ (Kept.refl _ _).drew).2, (Kept.refl _ _).drew⟩ | exact ⟨(HB.out _ k8).1, (HB.out _ k8).2, k8⟩ | assumption) (first
      | (go_at_call 24; (with_reducible refine (HNM.out _ (by first | exact (Kept.refl _ _).drew | assumption)).mono ?_); rintro e w8 ⟨rfl, k8'⟩; (have k8 := (Kept.refl [] wr).drew.trans' k8')))
     all_goals
      go_wp2
      go_meet
      exact ⟨rfl, by first | exact k8 | exact (Kept.refl [] wr).drew⟩
   case rest =>
    obtain ⟨rfl, k7⟩ := hcut
    have ci7 := k7.cellOf ci
    have K7 := Lib.hid k7
    clear k7 ci HNM HORD
    go_upto_if 70 with (fail)
    go_cut [10] from 69 to 75 (fun v10 wx => v10 = S pn ∧ wc = wx)
    case first =>
     by_cases hp0 : p = []
     ·have hrt : (pt == [47]) = true := by rw [HPT0.out.2.2]; exact decide_eq_true hp0
      have hpn := HPT.out
      rw [if_pos hp0] at hpn
      subst hpn
      clear hp0
      go_wp2_with (fail)
      all_goals first
       | (go_meet; exact ⟨rfl, rfl⟩)
       | (exfalso; clear HPT HDI HRE HSI HRI HFX; simp_all; done)
     ·have hrt : (pt == [47]) = false := by rw [HPT0.out.2.2]; exact decide_eq_false hp0
      have hpn := HPT.out
      rw [if_neg hp0] at hpn
      subst hpn
      clear hp0
      go_wp2_with (fail)
      all_goals first
       | (go_meet; refine ⟨?_, rfl⟩; simp; done)
       | (exfalso; clear HPT HDI HRE HSI HRI HFX; simp_all; done)
    case rest =>
     obtain ⟨rfl, rfl⟩ := hcut
     clear ci7 HPT
     go_wp2_with (fail)
     refine (HDI.out _ K7.out).mono ?_
     rintro e w9 ⟨rfl, k9⟩
     have K9 := Lib.hid (K7.out.trans' k9)
     clear k9 HDI
     cases hdr : x.dir with
     | true =>
      have HR2 := Lib.hid (HRE.out _ K9.out hdr)
      clear HRE HSI HRI HFX
      go_wp2_with (fail)
      refine HR2.out.mono ?_
      rintro e w10 ⟨rfl, k10⟩
      have K10 := Lib.hid (KR.out.trans' (K9.out.trans' k10))
      clear k10 HR2
      go_wp2_with (fail)
      go_roundw
      case rel => exact ⟨i + 1, by go_num, by omega, K10.out⟩
      case measure => simp [intOf]; omega
     | false =>
      obtain ⟨f1, f2⟩ := HFX.out hdr
      rw [f1] at HSI
      rw [f2] at HRI
      simp only at HSI HRI
      clear HRE HFX f1 f2
      go_wp2_with (fail)
      refine (HSI.out _ K9.out).mono ?_
      rintro e w10 ⟨rfl, k10⟩
      have K10 := Lib.hid (K9.out.trans' k10)
      clear k10 HSI
      go_wp2_with (fail)
      refine (HRI.out _ K10.out).mono ?_
      rintro e w11 ⟨rfl, k11⟩
      have K11 := Lib.hid (KR.out.trans' (K10.out.trans' k11))
      clear k11 HRI
      go_wp2_with (fail)
      go_roundw
      case rel => exact ⟨i + 1, by go_num, by omega, K11.out⟩
      case measure => simp [intOf]; omega
  ·have hltI : ¬ (i : Int) < ns.length := by omega
   clear hk
   go_wp2_with (fail)
   go_ret
   exact ⟨rfl, K1.out.trans' KR.out⟩
theorem named_any {ff given : Nat} {E : List Nd} : ∀ (m : Nat) (p : List Nm), PV p → 8 ≤ p.length + m → NamedP ff given E p
 | 0, p, hp, hm => named_step p hp fun nm hpx => by
  have := hpx.1
  rw [List.length_append] at this
  simp at this
  omega
 | m + 1, p, hp, hm => named_step p hp fun nm hpx => named_any m _ hpx (by rw [List.length_append]; simp; omega)
theorem namesLaw_any (w : World) (U : List Nat) (hU : TabsU w U) (m : Int) (sv : Value) (l : List Op16) (hl : OpsAt16 w sv l) :
  Calls Tryz.prog 3 #[.agg #[I m, sv]] w fun e w' => e = .returned (.bool true) ∧ Kept [] w w' := by
 obtain ⟨lp, lc, lb, lo, rfl, hlp, hcells, hok, hll, hlc⟩ := hl
 obtain ⟨W, hW⟩ : ∃ W, w.alloc (.cells #[I m, .slice lp l.length lc] 24) = W := ⟨_, rfl⟩
 have k0 : Kept [] w W := by rw [← hW]; exact (Kept.refl _ _).alloc _
 have hnew := heap_new w (.cells #[I m, .slice lp l.length lc] 24)
 rw [hW] at hnew
 obtain ⟨ob, hob⟩ : ∃ ob, w.heap.size = ob := ⟨_, rfl⟩
 rw [hob] at hnew
 have c0 := cell_at hnew 0
 have c1 := cell_at hnew 1
 simp only [List.getElem?_toArray, List.getElem?_cons_zero, List.getElem?_cons_succ] at c0 c1
 have HLA := Lib.hid (laid16_any W m)
 have hn8 := blk16_bound m
 obtain ⟨n, hn⟩ : ∃ n, blk16 m = n := ⟨_, rfl⟩
 rw [hn] at HLA hn8
 have HN := Lib.hid (And.intro hn8.1 hn8.2.1)
 have HU := Lib.hid (And.intro (hU.same k0) k0)
 have HC := Lib.hid (And.intro hlp (And.intro hcells hok))
 have C1 := Lib.hid c1
 have hlI : (l.length : Int) ≤ 4611686018427387904 := by omega
 clear hU k0 hcells hlp hok hnew hn8 hn c1
 go_enter Tryz.func3, Tryz.ntmps3
 go_wp2_with (simp only [hW, hob]; done)
 refine HLA.out.mono ?_
 intro e w2 hla
 obtain ⟨fb, ff, mb, sb, rfl, hs, hD⟩ := laid_lf hla HU.out.1
 have H2 := Lib.hid (And.intro hs hD)
 clear hs hD hla HLA c0 hW hob
 go_wp2_with (fail)
 go_loopw [6] (fun v6 wr => ∃ (i g : Nat) (E : List Nd) (v : Value) (M : List Nat), v6 = I i ∧ i ≤ 100 ∧ g ≤ i ∧ E.length ≤ i ∧ Lf W wr ff fb sb n (62 * i) g E M ∧ Df wr mb n g v E M) (fun v6 _ => 100 - (intOf v6).toNat)
 case atStart => exact ⟨0, 0, [], _, _, rfl, by omega, Nat.le_refl _, Nat.le_refl _, H2.out.1, H2.out.2⟩
 case round =>
  obtain ⟨i, g, E, v, M, rfl, hi, hg, hE, hs, hD⟩ := hrel
  have k1 := hs.old
  have b1 := k1.cellOf C1.out
  have HS := Lib.hid (And.intro hs hD)
  by_cases hgo : i < l.length ∧ i < 100
  ·obtain ⟨hlt, hlt2⟩ := hgo
   have hltI : (i : Int) < l.length := by omega
   have hlt2I : (i : Int) < 100 := by omega
   have hpe := HC.out.1 (by intro h; rw [h] at hlt; simp at hlt)
   subst hpe
   have kk := (HU.out.2.trans' hs.old)
   obtain ⟨x0, x1, x2, x3, x4, x5, x6⟩ := HC.out.2.1 i hlt
   replace x0 := kk.cellOf x0
   replace x1 := kk.cellOf x1
   replace x2 := kk.cellOf x2
   replace x3 := kk.cellOf x3
   replace x4 := kk.cellOf x4
   replace x5 := kk.cellOf x5
   replace x6 := kk.cellOf x6
   have hoo := HC.out.2.2 l[i] (List.getElem_mem hlt)
   obtain ⟨o, ho⟩ : ∃ o, l[i] = o := ⟨_, rfl⟩
   rw [ho] at x0 x1 x2 x3 x4 x5 x6 hoo
   have HCH := Lib.hid (change_any wr hs hD o hoo (by omega) (by have := HN.out; omega) (by omega) (by omega) (by omega))
   have HG := Lib.hid (change_grown (n := n) hs.wf o)
   obtain ⟨R, hR⟩ : ∃ R, changeF n g E o = R := ⟨_, rfl⟩
   rw [hR] at HCH HG
   obtain ⟨kd, at0, n0, p, t, s, mk⟩ := o
   unfold Op16.cs at HCH
   simp only at HCH x0 x1 x2 x3 x4 x5 x6
   clear hs hD k1 H2 kk hoo ho hR
   go_wp2_with (fail)
   refine HCH.out.mono ?_
   rintro e w4 ⟨rfl, v', M', hM, hs, hD, hk⟩
   have HS4 := Lib.hid (And.intro hs hD)
   clear hM hs hD hk HCH
   go_wp2_with (fail)
   go_roundw
   case rel => exact ⟨i + 1, R.2.1, R.2.2, v', M', by go_num, by omega, by have := HG.out.gv; omega, by have := HG.out.few; omega, HS4.out.1.mono (by have := HN.out; omega) (by omega), HS4.out.2⟩
   case measure => simp [intOf]; omega
  ·have hstop : (l.length : Int) ≤ i ∨ ((i : Int) < l.length ∧ (100 : Int) ≤ i) := by
    by_cases h1 : i < l.length
    ·right
     have : ¬ i < 100 := fun h2 => hgo ⟨h1, h2⟩
     omega
    ·left; omega
   obtain ⟨U8, hU8⟩ := hs.tabs
   have HNA := Lib.hid (named_any (ff := ff) (given := g) (E := E) 8 [] PV.nil (by simp) wr hs.rdf rfl rfl)
   rw [pathT_nil] at HNA
   simp only [List.length_nil] at HNA
   have HF := Lib.hid (fun W (k : Kept [] wr W) => fixed16_any W U8 (hU8.same k))
   clear hs hD k1 H2 hU8 hgo
   generalize l.length = LL at b1 hlI hstop ⊢
   rcases hstop with hst | ⟨hst, hst2⟩
   all_goals
    go_wp2_with (fail)
    refine HNA.out.mono ?_
    rintro e w8 ⟨rfl, k8⟩
    have K8 := Lib.hid k8
    clear k8
    go_wp2_with (fail)
    refine (HF.out _ K8.out).mono ?_
    rintro e w9 ⟨rfl, k9⟩
    have HKK := Lib.hid (((HU.out.2.trans' HS.out.1.old).trans' K8.out).trans' k9)
    clear k9
    go_wp2_with (fail)
    go_ret
    exact ⟨rfl, HKK.out⟩
end Go.Proofs.YteplbljjlbdhaaaGreatDoor
