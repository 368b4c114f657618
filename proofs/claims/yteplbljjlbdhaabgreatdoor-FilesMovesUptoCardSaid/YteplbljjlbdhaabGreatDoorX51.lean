/- Walks and lemmas on the program of this seat, used by its statements; each theorem bears its own conditions. -/
import Derived.Test.YteplbljjlbdhaabGreatDoorX49
import Derived.Test.YteplbljjlbdhaabGreatDoorX50
namespace Go.Proofs.YteplbljjlbdhaabGreatDoor
open Go.RowKit
set_option linter.unusedVariables false
set_option linter.unusedSimpArgs false
set_option linter.unusedSectionVars false
set_option maxHeartbeats 16000000
set_option maxRecDepth 100000
section
variable {given : Nat} {E : List Nd}
theorem ren_back (h : WF given E) {p q : List Nm} (hq : q ≠ []) (hqn : ent E q = none) : renE (renE E p q) q p = E := by
 unfold renE
 rw [List.map_map]
 have key : ∀ y ∈ E, (renX q p ∘ renX p q) y = y := fun y hy => by
  have e : renP q p (renP p q y.path) = y.path := by
   by_cases h1 : ∃ r, y.path = p ++ r
   ·obtain ⟨r, h1⟩ := h1
    rw [h1, renP_in, renP_in]
   ·rw [renP_out h1, renP_out]
    rintro ⟨r, hr⟩
    exact no_q h hq hqn y hy r hr
  obtain ⟨yp, yn, yd, yt⟩ := y
  show (⟨renP q p (renP p q yp), yn, yd, yt⟩ : Nd) = ⟨yp, yn, yd, yt⟩
  rw [e]
 calc E.map (renX q p ∘ renX p q) = E.map id := List.map_congr_left key
  _ = E := List.map_id _
theorem rename_back (n : Nat) (h : WF given E) (s t : List UInt8) (hr : (renameF n given E s t).1 = 0) (hw : wL (objL given E) ≤ quotaF n) : renameF n (renameF n given E s t).2.1 (renameF n given E s t).2.2 t s = (0, given, E) := by
 unfold renameF at hr
 split at hr
 ·cases hr
 next p hp =>
 split at hr
 ·cases hr
 next q hq =>
 obtain ⟨-, hpv⟩ := pathT_of hp
 obtain ⟨-, hqv⟩ := pathT_of hq
 split at hr
 ·cases hr
 next hp0 =>
 split at hr
 ·next hf => exact absurd (by simpa using hr) hf
 next hf =>
 split at hr
 ·cases hr
 next hb =>
 split at hr
 ·cases hr
 next hq0 =>
 split at hr
 ·next hf => exact absurd (by simpa using hr) hf
 next hfu =>
 split at hr
 ·cases hr
 next hd =>
 split at hr
 ·cases hr
 next he =>
 split at hr
 ·cases hr
 next hk =>
 have hf : findF E [] p = 0 := by simpa using hf
 have hfu : findF E [] q.dropLast = 0 := by simpa using hfu
 obtain ⟨x, hx⟩ := Option.isSome_iff_exists.1 (find_ent E p [] hf hp0)
 replace hx : ent E p = some x := hx
 obtain ⟨hxE, hxp⟩ := ent_mem hx
 have hd' : isDirP E q.dropLast = true := by cases hx : isDirP E q.dropLast with | true => rfl | false => exact absurd hx hd
 have hen : ent E q = none := by cases hx : ent E q with | none => rfl | some x => rw [hx] at he; exact absurd rfl he
 have hpq : ¬ ∃ r, q = x.path ++ r := by
  rintro ⟨r, hr⟩
  rw [hxp] at hr
  by_cases hr0 : r = []
  ·rw [hr0, List.append_nil] at hr
   rw [hr, hx] at hen
   cases hen
  ·have hl := List.length_pos_iff.2 hr0
   exact hb ⟨by rw [hr, List.length_append]; omega, by rw [hr]; simp⟩
 have hw2 := wf_ren h hxE hq0 hen hpq hqv hd' (by
  rw [hxp]
  by_cases he : p.dropLast = q.dropLast
  ·exact .inr he
  ·left
   have := h.few q.dropLast
   rcases Nat.lt_or_ge (kids E q.dropLast).length 6 with h6 | h6
   ·omega
   ·exact absurd (.inl ⟨by omega, he⟩) hk) (fun y hy r hr => by
  rw [hxp] at hr
  have := depth_le hy hr
  rcases Nat.lt_or_ge 8 (q.length + depthF E p) with h8 | h8
  ·exact absurd (.inr h8) hk
  ·omega)
 have e1 : renameF n given E s t = tryF n given E given (renE E p q) := by
  unfold renameF
  simp only [hp, hq]
  rw [if_neg hp0, if_neg (by simpa using hf), if_neg hb, if_neg hq0, if_neg (by simpa using hfu), if_neg hd, if_neg he, if_neg hk]
 have e2 : tryF n given E given (renE E p q) = (0, given, renE E p q) := by
  unfold tryF at hr ⊢
  split at hr
  ·next h6 => rw [if_pos h6]
  ·cases hr
 rw [e1, e2]
 have hnx : ∀ r, p ≠ q ++ r := fun r e => no_q h hq0 hen x hxE r (by rw [hxp, e])
 have hxm : renX p q x ∈ renE E p q := List.mem_map.2 ⟨x, hxE, rfl⟩
 have hxn : (renX p q x).path = q := by
  show renP p q x.path = q
  have := renP_in p q []
  rw [List.append_nil, List.append_nil] at this
  rw [hxp]; exact this
 rw [hxp] at hw2
 have g1 : findF (renE E p q) [] q = 0 := by
  have := find_in hw2 hxm
  rwa [hxn] at this
 have hup : findF (renE E p q) [] p.dropLast = 0 ∧ isDirP (renE E p q) p.dropLast = true := by
  rcases h.up x hxE with h1 | ⟨y, hy, h1, h2⟩
  ·rw [hxp] at h1
   rw [h1]
   exact ⟨rfl, rfl⟩
  ·rw [hxp] at h1
   have hyn : (renX p q y).path = p.dropLast := by
    show renP p q y.path = p.dropLast
    rw [h1, renP_out]
    rintro ⟨r, hr⟩
    have := congrArg List.length hr
    rw [List.length_dropLast, List.length_append] at this
    have := List.length_pos_iff.2 hp0
    omega
   have hym : renX p q y ∈ renE E p q := List.mem_map.2 ⟨y, hy, rfl⟩
   have f1 := find_in hw2 hym
   have f2 := isDirP_of hw2 (ent_of hw2.paths hym)
   rw [hyn] at f1 f2
   exact ⟨f1, f2.trans h2⟩
 have g5 : ent (renE E p q) p = none := by
  cases hy : ent (renE E p q) p with
  | none => rfl
  | some y =>
   obtain ⟨hy1, hy2⟩ := ent_mem hy
   obtain ⟨z, hz, rfl⟩ := List.mem_map.1 hy1
   replace hy2 : renP p q z.path = p := hy2
   by_cases h1 : ∃ r, z.path = p ++ r
   ·obtain ⟨r, h1⟩ := h1
    rw [h1, renP_in] at hy2
    exact absurd hy2.symm (hnx r)
   ·rw [renP_out h1] at hy2
    exact absurd ⟨[], by rw [hy2, List.append_nil]⟩ h1
 have g6 : ¬ ((kids (renE E p q) p.dropLast).length = 6 ∧ q.dropLast ≠ p.dropLast) := by
  rintro ⟨h6, hne⟩
  have hkr := kids_ren h hxE hq0 hen hpq p.dropLast
  rw [hxp] at hkr
  rw [hkr] at h6
  unfold kidsR at h6
  rw [if_neg (by
   intro hh
   obtain ⟨r, hr⟩ := pre_iff.1 hh
   have e := List.dropLast_concat_getLast hp0
   rw [hr, List.append_assoc] at e
   exact hnx _ e.symm), if_neg hne, hxp] at h6
  have hlt : (stayE E p p.dropLast).length < (kids E p.dropLast).length := by
   unfold stayE
   refine List.length_filter_lt_length_iff_exists.2 ⟨(p.getLastD [], x.num), mem_kids.2 ⟨x, hxE, by rw [hxp]; exact (last_snoc hp0).symm, rfl⟩, ?_⟩
   have : p.dropLast ++ [p.getLastD []] = p := last_snoc hp0
   simp only [this]
   have : p.isPrefixOf p = true := pre_iff.2 ⟨[], by rw [List.append_nil]⟩
   rw [this]
   decide
  have := h.few p.dropLast
  omega
 have g7 : ¬ 8 < p.length + depthF (renE E p q) q := by
  rcases depth_at (renE E p q) q with h0 | ⟨y, hy, r, h1, h2⟩
  ·rw [h0]
   have := hpv.1
   omega
  ·obtain ⟨z, hz, rfl⟩ := List.mem_map.1 hy
   replace h1 : renP p q z.path = q ++ r := h1
   by_cases hc : ∃ r, z.path = p ++ r
   ·obtain ⟨r2, hc⟩ := hc
    rw [hc, renP_in] at h1
    have e := List.append_cancel_left h1
    subst e
    rw [← h2]
    have := (h.form z hz).2.1
    rw [hc, List.length_append] at this
    omega
   ·rw [renP_out hc] at h1
    exact absurd h1 (no_q h hq0 hen z hz r)
 unfold renameF
 simp only [hp, hq]
 rw [if_neg hq0, if_neg (by simp [g1]), if_neg (by
  rintro ⟨h1, h2⟩
  exact hnx (p.drop q.length) (by conv => lhs; rw [← List.take_append_drop q.length p, h2])), if_neg hp0, if_neg (by simp [hup.1]), if_neg (by simp [hup.2]), if_neg (by simp [g5]), if_neg (by
  rintro (h1 | h1)
  ·exact g6 h1
  ·exact g7 h1), ren_back h hq0 hen]
 unfold tryF
 rw [if_pos hw]
end
theorem Lf.quota {w0 w : World} {ff fb sb n d given : Nat} {E : List Nd} {M : List Nat} (h : Lf w0 w ff fb sb n d given E M) : wL (objL given E) ≤ quotaF n := by
 obtain ⟨V, T, U, h1, _⟩ := h
 have e := sim_weight h1.st.sorted h1.wf h1.sim
 have := h1.st.stk.small
 omega
theorem movesLaw_any (w : World) (U : List Nat) (hU : TabsU w U) (m : Int) (sv : Value) (l : List Op16) (hl : OpsAt16 w sv l) :
  Calls Tryz.prog 3 #[.agg #[I m, sv]] w fun e w' => e = .returned (.bool true) ∧ Kept [] w w' := by
 obtain ⟨lp, lc, lb, lo, rfl, hlp, hcells, hok, hll, hlc⟩ := hl
 obtain ⟨W, hW⟩ : ∃ W, w.alloc (.cells #[I m, .slice lp l.length lc] 24) = W := ⟨_, rfl⟩
 have k0 : Kept [] w W := by rw [← hW]; exact (Kept.refl _ _).alloc _
 have hnew := heap_new w (.cells #[I m, .slice lp l.length lc] 24)
 rw [hW] at hnew
 obtain ⟨ob, hob⟩ : ∃ ob, w.heap.size = ob := ⟨_, rfl⟩
 rw [hob] at hnew
 have c0 := cell_at hnew 0
 have c1 := cell_at hnew 1
 simp only [List.getElem?_toArray, List.getElem?_cons_zero, List.getElem?_cons_succ] at c0 c1
 have HLA := Lib.hid (laid16_any W m)
 have hn8 := blk16_bound m
 obtain ⟨n, hn⟩ : ∃ n, blk16 m = n := ⟨_, rfl⟩
 rw [hn] at HLA hn8
 have HN := Lib.hid (And.intro hn8.1 hn8.2.1)
 have HU := Lib.hid (And.intro (hU.same k0) k0)
 have HC := Lib.hid (And.intro hlp (And.intro hcells hok))
 have C1 := Lib.hid c1
 have hlI : (l.length : Int) ≤ 4611686018427387904 := by omega
 clear hU k0 hcells hlp hok hnew hn8 hn c1
 go_enter Tryz.func3, Tryz.ntmps3
 go_wp2_with (simp only [hW, hob]; done)
 refine HLA.out.mono ?_
 intro e w2 hla
 obtain ⟨fb, ff, mb, sb, rfl, hs, hD⟩ := laid_lf hla HU.out.1
 have H2 := Lib.hid (And.intro hs hD)
 clear hs hD hla HLA c0 hW hob
 go_wp2_with (fail)
 go_loopw [6] (fun v6 wr => ∃ (i g : Nat) (E : List Nd) (v : Value) (M : List Nat), v6 = I i ∧ i ≤ 60 ∧ g ≤ i ∧ E.length ≤ i ∧ Lf W wr ff fb sb n (124 * i) g E M ∧ Df wr mb n g v E M) (fun v6 _ => 60 - (intOf v6).toNat)
 case atStart => exact ⟨0, 0, [], _, _, rfl, by omega, Nat.le_refl _, Nat.le_refl _, H2.out.1, H2.out.2⟩
 case round =>
  obtain ⟨i, g, E, v, M, rfl, hi, hg, hE, hs, hD⟩ := hrel
  have k1 := hs.old
  have b1 := k1.cellOf C1.out
  have HS := Lib.hid (And.intro hs hD)
  by_cases hlt : i < l.length
  ·have hltI : (i : Int) < l.length := by omega
   by_cases hlt2 : i < 60
   ·have hlt2I : (i : Int) < 60 := by omega
    have hpe := HC.out.1 (by intro h; rw [h] at hlt; simp at hlt)
    subst hpe
    have kk := (HU.out.2.trans' hs.old)
    obtain ⟨x0, x1, x2, x3, x4, x5, x6⟩ := HC.out.2.1 i hlt
    replace x0 := kk.cellOf x0
    replace x1 := kk.cellOf x1
    replace x2 := kk.cellOf x2
    replace x3 := kk.cellOf x3
    replace x4 := kk.cellOf x4
    replace x5 := kk.cellOf x5
    replace x6 := kk.cellOf x6
    have hoo := HC.out.2.2 l[i] (List.getElem_mem hlt)
    obtain ⟨o, ho⟩ : ∃ o, l[i] = o := ⟨_, rfl⟩
    rw [ho] at x0 x1 x2 x3 x4 x5 x6 hoo
    obtain ⟨kd, at0, n0, p, t, s, mk⟩ := o
    simp only at x0 x1 x2 x3 x4 x5 x6
    obtain ⟨W2, hW2⟩ : ∃ W2, wr.alloc (.cells #[I kd, I at0, I n0, S p, S t, S s, B mk] 31) = W2 := ⟨_, rfl⟩
    have hk2 := (Kept.refl [] wr).alloc (.cells #[I kd, I at0, I n0, S p, S t, S s, B mk] 31)
    have n2 := heap_new wr (.cells #[I kd, I at0, I n0, S p, S t, S s, B mk] 31)
    rw [hW2] at hk2 n2
    have hsz : ∀ x ∈ M, x < wr.heap.size := fun x hx => by obtain ⟨_, _, _, _, _, h3, _⟩ := hs; exact (h3 x hx).2.2.1
    have hltb := lt_of_block n2
    have hs2 := hs.more hk2 [wr.heap.size] (fun x hx => by
     have : x = wr.heap.size := by simpa using hx
     subst this
     exact ⟨Nat.le_refl _, hltb⟩)
    obtain ⟨xb, hxb⟩ : ∃ xb, wr.heap.size = xb := ⟨_, rfl⟩
    rw [hxb] at n2 hs2 hltb
    have hD2 : Df W2 mb n g v E ([xb] ++ M) := by
     have hDM := hD.kept hk2 (by simp)
     exact ⟨hDM.1, List.mem_cons_of_mem _ hDM.2.1, fun q hq => List.mem_cons_of_mem _ (hDM.2.2 q hq)⟩
    have y0 := cell_at n2 0
    have y1 := cell_at n2 1
    have y2 := cell_at n2 2
    have y3 := cell_at n2 3
    have y4 := cell_at n2 4
    have y5 := cell_at n2 5
    have y6 := cell_at n2 6
    simp only [List.getElem?_toArray, List.getElem?_cons_zero, List.getElem?_cons_succ] at y0 y1 y2 y3 y4 y5 y6
    have HS2 := Lib.hid (And.intro hs2 (And.intro hD2 n2))
    have HOO := Lib.hid hoo
    clear hs hD k1 H2 kk hk2 n2 hsz hltb hs2 hD2 hoo ho
    by_cases hk7 : kd = 7
    ·subst hk7
     have hp1 := HOO.out.path1
     have hp2 := HOO.out.to1
     simp only at hp1 hp2
     have HR1 := Lib.hid (lf_rename HS2.out.1 (by omega) (by have := HN.out; omega) (by omega) p t (by omega) (by omega))
     have HNO := Lib.hid (rename_grown (n := n) HS2.out.1.wf p t)
     have HBK := Lib.hid (fun hr => rename_back n HS2.out.1.wf p t hr HS2.out.1.quota)
     obtain ⟨R, hR⟩ : ∃ R, renameF n g E p t = R := ⟨_, rfl⟩
     rw [hR] at HR1 HNO HBK
     clear hR
     go_wp2_with (simp only [hW2, hxb]; done)
     refine HR1.out.mono ?_
     rintro e w4 ⟨rfl, hs4, T4, hT4, k4⟩
     have hD4 := HS2.out.2.1.kept k4 hT4
     have n4 := k4.at HS2.out.2.2 (hT4 _ List.mem_cons_self)
     have z3 := cell_at n4 3
     have z4 := cell_at n4 4
     simp only [List.getElem?_toArray, List.getElem?_cons_zero, List.getElem?_cons_succ] at z3 z4
     have HS4 := Lib.hid (And.intro hs4 hD4)
     clear hs4 hD4 hT4 k4 n4 HR1
     by_cases hr : R.1 = 0
     ·have hrb : (R.1 != 0) = false := by simpa using hr
      have HR2 := Lib.hid (lf_rename HS4.out.1 (by have := HN.out; omega) (by have := HN.out; omega) (by have := HNO.out.gv; omega) t p (by omega) (by omega))
      rw [HBK.out hr] at HR2
      clear HBK hr
      go_wp2_with (fail)
      refine HR2.out.mono ?_
      rintro e w5 ⟨rfl, hs5, T5, hT5, k5⟩
      have hD5 := HS4.out.2.kept k5 hT5
      have HHO := Lib.hid (fholds_yes w5 hs5 hD5)
      have HS5 := Lib.hid (And.intro hs5 hD5)
      clear hs5 hD5 hT5 k5 HR2
      go_wp2_with (fail)
      refine HHO.out.mono ?_
      rintro e w6 ⟨rfl, k6⟩
      have K6 := Lib.hid k6
      clear k6 HHO
      go_wp2_with (fail)
      go_roundw
      case rel => exact ⟨i + 1, g, E, v, _, by go_num, by omega, by omega, by omega, (HS5.out.1.same K6.out).mono (by have := HN.out; omega) (by omega), HS5.out.2.kept K6.out (by simp)⟩
      case measure => simp [intOf]; omega
     ·have hrb : (R.1 != 0) = true := by simpa using hr
      have hno := HNO.out.no hr
      have hs5 := HS4.out.1
      rw [hno] at hs5
      have HS5 := Lib.hid hs5
      clear hs5 hno
      go_wp2_with (fail)
      go_roundw
      case rel => exact ⟨i + 1, g, E, v, _, by go_num, by omega, by omega, by omega, HS5.out.mono (by have := HN.out; omega) (by omega), HS4.out.2⟩
      case measure => simp [intOf]; omega
    ·have hk7b : (kd == 7) = false := by simpa using hk7
     have hk7c : (kd != 7) = true := by simpa using hk7
     have HCH := Lib.hid (change_any W2 HS2.out.1 HS2.out.2.1 ⟨kd, at0, n0, p, t, s, mk⟩ HOO.out (by omega) (by have := HN.out; omega) (by omega) (by omega) (by omega))
     have HG := Lib.hid (change_grown (n := n) HS2.out.1.wf ⟨kd, at0, n0, p, t, s, mk⟩)
     obtain ⟨R, hR⟩ : ∃ R, changeF n g E ⟨kd, at0, n0, p, t, s, mk⟩ = R := ⟨_, rfl⟩
     rw [hR] at HCH HG
     unfold Op16.cs at HCH
     simp only at HCH
     clear hR hk7
     go_wp2_with (simp only [hW2, hxb]; done)
     refine HCH.out.mono ?_
     rintro e w4 ⟨rfl, v', M', hM, hs, hD, hk⟩
     have HS4 := Lib.hid (And.intro hs hD)
     clear hM hs hD hk HCH
     go_wp2_with (fail)
     go_roundw
     case rel => exact ⟨i + 1, R.2.1, R.2.2, v', M', by go_num, by omega, by have := HG.out.gv; omega, by have := HG.out.few; omega, HS4.out.1.mono (by have := HN.out; omega) (by omega), HS4.out.2⟩
     case measure => simp [intOf]; omega
   ·have hlt2I : ¬ (i : Int) < 60 := by omega
    obtain ⟨U8, hU8⟩ := hs.tabs
    have HF := Lib.hid (fixed16_any wr U8 hU8)
    clear hs hD k1 H2 hU8
    go_wp2_with (fail)
    refine HF.out.mono ?_
    rintro e w9 ⟨rfl, k9⟩
    have HKK := Lib.hid ((HU.out.2.trans' HS.out.1.old).trans' k9)
    clear k9
    go_wp2_with (fail)
    go_ret
    exact ⟨rfl, HKK.out⟩
  ·have hltI : ¬ (i : Int) < l.length := by omega
   obtain ⟨U8, hU8⟩ := hs.tabs
   have HF := Lib.hid (fixed16_any wr U8 hU8)
   clear hs hD k1 H2 hU8
   go_wp2_with (fail)
   refine HF.out.mono ?_
   rintro e w9 ⟨rfl, k9⟩
   have HKK := Lib.hid ((HU.out.2.trans' HS.out.1.old).trans' k9)
   clear k9
   go_wp2_with (fail)
   go_ret
   exact ⟨rfl, HKK.out⟩
end Go.Proofs.YteplbljjlbdhaabGreatDoor
