/- Walks and lemmas on the program of this seat, used by its statements; each theorem bears its own conditions. -/
import Derived.Test.YteplbljjlbdhaaaGreatDoorZ43
namespace Go.Proofs.YteplbljjlbdhaaaGreatDoor
open Go.RowKit
set_option linter.unusedVariables false
set_option linter.unusedSimpArgs false
set_option linter.unusedSectionVars false
set_option maxHeartbeats 16000000
set_option maxRecDepth 100000
theorem rweightE_any (w : World) (mb n given g0 : Nat) (v : Value) (E : List Nd) (h : FDAt w mb n given v E) (hE : E.length ≤ 1000) (hg : given ≤ 16777215) (hw : WF g0 E) :
  Calls Tryz.prog 83 #[Ptr mb] w fun e w' => e = .returned (I (wL (objL given E))) ∧ Kept [] w w' := by
 have H := Lib.hid (And.intro h (And.intro hE hw))
 obtain ⟨_, c1, c2⟩ := h.cells
 obtain ⟨lp, lc, lb, rfl, hcap, hlp, hcells⟩ := h.2
 have hEI : (E.length : Int) ≤ 1000 := by omega
 have hgI : (given : Int) ≤ 16777215 := by omega
 have hbase : wL (objL given E) = (if given = 0 then 0 else 1) + ((if kids E [] = [] then 0 else pagesF (7 + (1 + dsum ((kids E []).map (·.1))))) + wL ((E.map (objX E)).flatten)) := by
  unfold objL
  rw [wL_append, wL_append]
  congr 1
  ·split
   ·rfl
   ·simp [wL, wF, putN_len, pagesF]
  ·congr 1
   split
   ·rfl
   ·simp only [wL, wF, List.map_cons, List.map_nil, List.sum_cons, List.sum_nil, Nat.add_zero]
    rw [rowD_dsum]
 have hks := kids_dsum hw []
 obtain ⟨KL, hKL⟩ : ∃ KL, (kids E []).map (·.1) = KL := ⟨_, rfl⟩
 have hkz : kids E [] = [] ↔ KL = [] := by rw [← hKL, List.map_eq_nil_iff]
 rw [hKL] at hks hbase
 have HNR := Lib.hid (fun W (k : Kept [] w W) => rnames_any W mb n given g0 _ E (h.same k) hE hw [] PV.nil)
 rw [hKL] at HNR
 have HN := Lib.hid (fun W (k : Kept [] w W) (x : Nd) (hx : x ∈ E) => rnames_any W mb n given g0 _ E (h.same k) hE hw x.path (hw.pv hx))
 have HW4 := Lib.hid (fun W => rweight_any 4 (by omega) W)
 have HW3 := Lib.hid (fun W => rweight_any 3 (by omega) W)
 obtain ⟨R, hR⟩ : ∃ R, wL (objL given E) = R := ⟨_, rfl⟩
 rw [hR] at hbase ⊢
 have HB := Lib.hid (And.intro hbase (And.intro hkz hks))
 have HC := Lib.hid (And.intro hlp (And.intro hcells (And.intro c1 c2)))
 have hp1 : pagesF (7 + 4) = 1 := rfl
 have hp3 : pagesF (7 + 3) = 1 := rfl
 rw [hp1] at HW4
 rw [hp3] at HW3
 clear h hcap hlp hcells hw hbase hkz hks hKL hR hp1 hp3 c2
 go_enter Tryz.func83, Tryz.ntmps83
 go_upto_if 11 with (fail)
 go_cut [3] from 7 to 12 (fun v3 wx => ∃ A : Nat, v3 = I A ∧ (given = 0 ∧ A = 0 ∨ given ≠ 0 ∧ A = 1) ∧ wx = w)
 case first =>
  by_cases hg0 : given = 0
  ·have hgz : ¬ (0 : Int) < given := by omega
   have HG := Lib.hid hg0
   clear hg0
   go_wp2_with (fail)
   go_meet
   exact ⟨0, rfl, .inl ⟨HG.out, rfl⟩, rfl⟩
  ·have hgz : (0 : Int) < given := by omega
   have HG := Lib.hid hg0
   clear hg0
   go_wp2_with (fail)
   refine (HW4.out _).mono ?_
   rintro e w1 ⟨rfl, rfl⟩
   go_wp2_with (fail)
   go_meet
   exact ⟨1, rfl, .inr ⟨HG.out, rfl⟩, rfl⟩
 case rest =>
 obtain ⟨A, rfl, hA, hwc⟩ := hcut
 replace hwc := hwc.symm
 subst hwc
 have hA1 : (A : Int) ≤ 1 := by rcases hA with ⟨_, h⟩ | ⟨_, h⟩ <;> omega
 have HA := Lib.hid hA
 clear hA
 have HNR2 := HNR
 rw [pathT_nil] at HNR2
 go_wp2_with (fail)
 refine (HNR2.out w (Kept.refl _ _)).mono ?_
 rintro e w2 ⟨⟨lv, rfl, hlv⟩, k2⟩
 obtain ⟨np, nc, rfl⟩ : ∃ np nc, lv = .slice np KL.length nc := by obtain ⟨a, b, c, _⟩ := hlv; exact ⟨a, b, c⟩
 have HD := Lib.hid (rdirs_any w2 _ KL hlv HB.out.2.2)
 have K2 := Lib.hid k2
 clear hlv k2
 have hkl : (KL.length : Int) ≤ 250 := by
  have h1 := HB.out.2.2
  have : ∀ l : List Nm, l.length ≤ dsum l := fun l => by
   induction l with
   | nil => simp
   | cons a t ih => unfold dsum at ih ⊢; simp only [List.map_cons, List.sum_cons, List.length_cons]; omega
  have := this KL
  omega
 go_upto_if 17 with (fail)
 go_cut [3] from 15 to 21 (fun v3 wx => ∃ B : Nat, v3 = I B ∧ (KL = [] ∧ B = A ∨ KL ≠ [] ∧ B = A + pagesF (7 + (1 + dsum KL))) ∧ Kept [] w2 wx)
 case first =>
  by_cases hk0 : KL = []
  ·have hz : ¬ (0 : Int) < KL.length := by rw [hk0]; simp
   have HK := Lib.hid hk0
   clear hk0
   go_wp2_with (fail)
   go_meet
   exact ⟨A, rfl, .inl ⟨HK.out, rfl⟩, Kept.refl _ _⟩
  ·have hz : (0 : Int) < KL.length := by have := List.length_pos_iff.2 hk0; omega
   have HK := Lib.hid hk0
   have hpl := pages_le (7 + (1 + dsum KL)) (by have := HB.out.2.2; omega)
   obtain ⟨P, hP⟩ : ∃ P, pagesF (7 + (1 + dsum KL)) = P := ⟨_, rfl⟩
   have HPP := Lib.hid hP
   rw [hP] at HD hpl
   have hPI : (P : Int) ≤ 7 := by omega
   clear hk0 hP hpl
   go_wp2_with (fail)
   refine HD.out.mono ?_
   rintro e w1 ⟨rfl, rfl⟩
   go_wp2_with (fail)
   go_meet
   exact ⟨A + P, by go_num, .inr ⟨HK.out, by rw [HPP.out]⟩, Kept.refl _ _⟩
 case rest =>
 obtain ⟨B, rfl, hB, k3⟩ := hcut
 have hBI : B ≤ 8 := by
  rcases hB with ⟨_, h⟩ | ⟨_, h⟩
  ·omega
  ·have := pages_le (7 + (1 + dsum KL)) (by have := HB.out.2.2; omega); omega
 have K3 := Lib.hid (K2.out.trans' k3)
 have HBB := Lib.hid hB
 clear k3 hB
 go_wp2_with (fail)
 go_loopw [3, 5] (fun v3 v5 wr => ∃ k : Nat, k ≤ E.length ∧ v5 = I k ∧ v3 = I ((B + wL (((E.take k).map (objX E)).flatten) : Nat) : Int) ∧ Kept [] w wr) (fun _ v5 _ => E.length - (intOf v5).toNat)
 case atStart => exact ⟨0, by omega, rfl, rfl, K3.out⟩
 case round =>
  obtain ⟨k, hk, rfl, rfl, kr⟩ := hrel
  obtain ⟨hlp, hcells, c1, c2⟩ := HC.out
  have e2 := kr.cellOf c2
  obtain ⟨hfd, _, hw⟩ := H.out
  have hle := wfold_le hw k hk
  by_cases hlt : k < E.length
  ·have hltI : (k : Int) < E.length := by omega
   have hpe := hlp (by intro h; rw [h] at hlt; simp at hlt)
   subst hpe
   obtain ⟨d0, d1, d2⟩ := hcells k hlt
   have f0 := kr.cellOf d0
   have f1 := kr.cellOf d1
   have f2 := kr.cellOf d2
   have hmem := List.getElem_mem hlt
   have hstep := wfold_take E k hlt
   have hXl := wX_le hw _ hmem
   have hXi := wX_is E E[k]
   have hrow : rowX E E[k] = if E[k].dir then rowD (kids E E[k].path) else rowF E[k].data.length := rfl
   have hdat := hw.data _ hmem
   have hds := kids_dsum hw E[k].path
   have HNX := Lib.hid (HN.out wr kr _ hmem)
   obtain ⟨x, hx⟩ : ∃ x, E[k] = x := ⟨_, rfl⟩
   rw [hx] at f0 f1 f2 hstep hXl hXi hrow hdat hds HNX
   obtain ⟨F, hF⟩ : ∃ F, wL (((E.take k).map (objX E)).flatten) = F := ⟨_, rfl⟩
   rw [hF] at hstep hle ⊢
   obtain ⟨Y, hY⟩ : ∃ Y, wL (objX E x) = Y := ⟨_, rfl⟩
   rw [hY] at hstep hXl hXi
   have hBF : ((B + F : Nat) : Int) ≤ 300000 := by omega
   obtain ⟨acc, hacc⟩ : ∃ acc, B + F = acc := ⟨_, rfl⟩
   rw [hacc] at hBF ⊢
   obtain ⟨pt, hpt⟩ : ∃ pt, pathT x.path = pt := ⟨_, rfl⟩
   rw [hpt] at f0 HNX
   obtain ⟨DD, hDD⟩ : ∃ DD, x.data = DD := ⟨_, rfl⟩
   rw [hDD] at f2 hXi hrow hdat
   have HS := Lib.hid (And.intro hstep (And.intro hacc (And.intro kr hlt)))
   cases hxd : x.dir with
   | true =>
    rw [hxd] at f1 hrow hdat
    obtain ⟨NL, hNL⟩ : ∃ NL, (kids E x.path).map (·.1) = NL := ⟨_, rfl⟩
    rw [hNL] at HNX hds
    have hYY : Y = pagesF (7 + (1 + dsum NL)) := by
     rw [hXi, hrow, if_pos rfl, hdat.2 rfl]
     unfold wF
     rw [rowD_dsum, hNL]
     rfl
    have hpl := pages_le (7 + (1 + dsum NL)) (by omega)
    have HDD := Lib.hid (fun W v (h : StrsAt W v NL) => rdirs_any W v NL h hds)
    rw [← hYY] at HDD hpl
    have hYI : (Y : Int) ≤ 7 := by omega
    clear hlp hcells c1 c2 hfd hw hle d0 d1 d2 hmem hstep hXl hXi hrow hdat hds hx hF hY hacc hpt hDD hxd hNL hYY hpl kr hlt
    go_wp2_with (fail)
    refine HNX.out.mono ?_
    rintro e w4 ⟨⟨lv, rfl, hlv⟩, k4⟩
    obtain ⟨np2, nc2, rfl⟩ : ∃ np nc, lv = .slice np NL.length nc := by obtain ⟨a, b, c, _⟩ := hlv; exact ⟨a, b, c⟩
    have HD4 := Lib.hid (HDD.out w4 _ hlv)
    have K4 := Lib.hid k4
    clear hlv k4
    go_wp2_with (fail)
    refine HD4.out.mono ?_
    rintro e w5 ⟨rfl, rfl⟩
    go_wp2_with (fail)
    go_roundw
    case rel =>
     obtain ⟨hstep, hacc, kr, hlt⟩ := HS.out
     exact ⟨k + 1, by omega, by go_num, by rw [hstep]; go_num, kr.trans' K4.out⟩
    case measure => simp [intOf]; omega
   | false =>
    rw [hxd] at f1 hrow hdat
    have hYY : Y = 1 + sumK DD.length (cnt DD.length) := by
     rw [hXi, hrow, if_neg (by decide)]
     congr 1
    have hd4 := hdat.1
    have hDI : (DD.length : Int) ≤ 4096 := by omega
    have HY := Lib.hid (And.intro hYY hd4)
    clear hlp hcells c1 c2 hfd hw hle d0 d1 d2 hmem hstep hXl hXi hrow hdat hds hx hF hY hacc hpt hDD hxd hYY kr hlt hd4
    go_wp2_with (fail)
    refine (HW3.out _).mono ?_
    rintro e w5 ⟨rfl, rfl⟩
    go_wp2_with (fail)
    go_loop [3, 6] (fun v3 v6 => ∃ i : Nat, i ≤ 32 ∧ v6 = I ((DD.length : Int) - 128 * i) ∧ (i = 0 ∨ 128 * (i - 1) < DD.length) ∧ v3 = I ((acc + 1 + sumK DD.length i : Nat) : Int)) (fun _ v6 => (intOf v6).toNat)
    case atStart => exact ⟨0, by omega, by go_num, .inl rfl, by go_num⟩
    case round =>
     obtain ⟨i, hi, rfl, hi2, rfl⟩ := hrel
     have hsl := sumK_le DD.length i
     obtain ⟨Z, hZ⟩ : ∃ Z, acc + 1 + sumK DD.length i = Z := ⟨_, rfl⟩
     rw [hZ]
     have hZI : (Z : Int) ≤ 400000 := by omega
     by_cases hpos : 128 * i < DD.length
     ·have hposI : (0 : Int) < (DD.length : Int) - 128 * i := by omega
      obtain ⟨m, hm⟩ : ∃ m, min 128 (DD.length - 128 * i) = m := ⟨_, rfl⟩
      have hmI : min ((DD.length : Int) - 128 * i) 128 = (m : Int) := by omega
      have hsn := sumK_succ DD.length i
      rw [hm] at hsn
      have hW := rweight_any m (by omega) w5
      have hpl := pages_le (7 + m) (by omega)
      obtain ⟨P, hP⟩ : ∃ P, pagesF (7 + m) = P := ⟨_, rfl⟩
      rw [hP] at hW hsn hpl
      have HW := Lib.hid hW
      have hPI : (P : Int) ≤ 7 := by omega
      obtain ⟨nn, hnn⟩ : ∃ nn : Int, (DD.length : Int) - 128 * i = nn := ⟨_, rfl⟩
      rw [hnn] at hposI hmI ⊢
      have hnI : nn ≤ 4096 := by omega
      have HQ := Lib.hid (And.intro hsn (And.intro hZ (And.intro hpos hnn)))
      clear hsl hZ hpos hm hsn hW hpl hP hnn hi2
      go_wp2_with (fail)
      refine HW.out.mono ?_
      rintro e w6 ⟨rfl, rfl⟩
      go_wp2_with (fail)
      go_round
      case rel =>
       obtain ⟨hsn, hZ, hpos, hnn⟩ := HQ.out
       have h4 := HY.out.2
       exact ⟨i + 1, by omega, by go_num, .inr (by simpa using hpos), by rw [hsn]; go_num⟩
      case measure =>
       simp [intOf]
       omega
     ·have hposI : ¬ (0 : Int) < (DD.length : Int) - 128 * i := by omega
      obtain ⟨nn, hnn⟩ : ∃ nn : Int, (DD.length : Int) - 128 * i = nn := ⟨_, rfl⟩
      rw [hnn] at hposI ⊢
      have hci : i = cnt DD.length := by unfold cnt; omega
      have HQ := Lib.hid (And.intro hZ hci)
      clear hsl hZ hpos hnn hi2 hci
      go_wp2_with (fail)
      go_roundw
      case rel =>
       obtain ⟨hstep, hacc, kr, hlt⟩ := HS.out
       obtain ⟨hZ, hci⟩ := HQ.out
       have hYY := HY.out.1
       rw [← hci] at hYY
       exact ⟨k + 1, by omega, by go_num, by rw [hstep]; go_num, kr⟩
      case measure => simp [intOf]; omega
  ·have hke : k = E.length := by omega
   subst hke
   rw [List.take_length] at hle ⊢
   obtain ⟨F, hF⟩ : ∃ F, wL ((E.map (objX E)).flatten) = F := ⟨_, rfl⟩
   rw [hF] at hle ⊢
   have hBF : ((B + F : Nat) : Int) ≤ 300000 := by omega
   have HX : Hid (R = B + F) := Lib.hid (by
    obtain ⟨hbase, hkz, hks⟩ := HB.out
    rw [hbase, hF]
    rcases HA.out with ⟨a1, a2⟩ | ⟨a1, a2⟩ <;> rcases HBB.out with ⟨b1, b2⟩ | ⟨b1, b2⟩
    ·rw [if_pos a1, if_pos (hkz.2 b1)]; omega
    ·rw [if_pos a1, if_neg (fun h => b1 (hkz.1 h))]; omega
    ·rw [if_neg a1, if_pos (hkz.2 b1)]; omega
    ·rw [if_neg a1, if_neg (fun h => b1 (hkz.1 h))]; omega)
   have KR := Lib.hid kr
   obtain ⟨acc, hacc⟩ : ∃ acc, B + F = acc := ⟨_, rfl⟩
   rw [hacc] at hBF HX ⊢
   clear hlp hcells c1 c2 hfd hw hle hlt hF kr hacc
   go_wp2_with (fail)
   go_ret
   exact ⟨by rw [HX.out]; rfl, KR.out⟩
theorem edv_one (x : Nd) : edCells [x] = [S (pathT x.path), .bool x.dir, S x.data] := rfl
theorem rputE_any (w : World) (lv : Value) (E : List Nd) (hl : EDAt w lv E) (hE : E.length ≤ 1000) (hpv : ∀ y ∈ E, PV y.path) (x : Nd) (hx : PV x.path) :
    Calls Tryz.prog 43 #[lv, .agg #[S (pathT x.path), .bool x.dir, S x.data]] w fun e w' => (∃ v', e = .returned v' ∧ EDOwn w' w.heap.size v' (setE E x)) ∧ Kept [] w w' := by
  obtain ⟨i0, hi, hz0, hz1, hz2⟩ := info_parts ed_info
  obtain ⟨lp, lc, lb, rfl, hcap, hlp, hcells⟩ := hl
  have HC := Lib.hid (And.intro hlp (And.intro hcells (And.intro hpv hx)))
  have HI := Lib.hid (And.intro hi (And.intro hz0 (And.intro hz1 hz2)))
  have hEI : (E.length : Int) ≤ 1000 := by omega
  obtain ⟨xt, hxt⟩ : ∃ xt, pathT x.path = xt := ⟨_, rfl⟩
  obtain ⟨xd, hxd⟩ : ∃ xd, x.dir = xd := ⟨_, rfl⟩
  obtain ⟨xb, hxb⟩ : ∃ xb, x.data = xb := ⟨_, rfl⟩
  rw [hxt, hxd, hxb]
  have HX := Lib.hid (And.intro hxt (And.intro hxd hxb))
  have n1 := heap_new w (Obj.cells #[S xt, .bool xd, S xb] 85)
  have hk1 := (Kept.refl [] w).alloc (Obj.cells #[S xt, .bool xd, S xb] 85)
  have hs1 := World.size_alloc w (Obj.cells #[S xt, .bool xd, S xb] 85)
  obtain ⟨W1, hW1⟩ : ∃ W1, w.alloc (Obj.cells #[S xt, .bool xd, S xb] 85) = W1 := ⟨_, rfl⟩
  rw [hW1] at n1 hk1 hs1
  have hO : EDOwn (W1.alloc (Obj.cells #[] 85)) (w.heap.size + 1) (.slice (some ⟨W1.heap.size, 0, none⟩) 0 0) [] := ⟨rfl, .inr ⟨W1.heap.size, 0, #[], rfl, (by rw [hs1]; exact Nat.le_refl _), heap_new W1 _, Nat.le_refl _, Nat.zero_le _, rfl, rfl⟩⟩
  have HO := Lib.hid (And.intro hO (And.intro hk1 n1))
  clear hcap hlp hcells hpv hx hi hz0 hz1 hz2 hxt hxd hxb hO hk1 n1 hs1
  go_enter Tryz.func43, Tryz.ntmps43
  go_wp2_with (first | (simp only [hW1]; done) | (simp only [hW1]))
  go_loopw [5, 6] (fun v5 v6 wr => ∃ (k g c : Nat) (l : List Nd), k ≤ E.length ∧ v6 = I k ∧ v5 = .slice (some ⟨g, 0, none⟩) l.length c ∧ l.length ≤ k ∧ l = (E.take k).filter (fun y => decide (y.path ≠ x.path)) ∧ EDOwn wr (w.heap.size + 1) (.slice (some ⟨g, 0, none⟩) l.length c) l ∧ wr.heap[w.heap.size]? = some (.cells #[S xt, .bool xd, S xb] 85 (0, 0)) ∧ Kept [] w wr) (fun _ v6 _ => E.length - (intOf v6).toNat)
  case atStart => exact ⟨0, W1.heap.size, 0, [], by omega, rfl, rfl, by simp, rfl, HO.out.1, ((Kept.refl [] W1).alloc _).at HO.out.2.2 (by simp), HO.out.2.1.alloc _⟩
  case round =>
    obtain ⟨k, g, c, l, hk, rfl, rfl, hlk, hll, own, hb, kr⟩ := hrel
    have b0 := cell_at hb 0
    have b1 := cell_at hb 1
    have b2 := cell_at hb 2
    simp only [List.getElem?_toArray, List.getElem?_cons_zero, List.getElem?_cons_succ] at b0 b1 b2
    have hlI : (l.length : Int) ≤ 1000 := by omega
    obtain ⟨hi, hz0, hz1, hz2⟩ := HI.out
    by_cases hlt : k < E.length
    · have hltI : (k : Int) < E.length := by omega
      obtain ⟨hlp, hcells, hpv, hx⟩ := HC.out
      have hpe := hlp (by intro h; rw [h] at hlt; simp at hlt)
      subst hpe
      obtain ⟨d0, d1, d2⟩ := hcells k hlt
      have f0 := kr.cellOf d0
      have f1 := kr.cellOf d1
      have f2 := kr.cellOf d2
      have hq := pathT_eq (hpv _ (List.getElem_mem hlt)) hx
      rw [HX.out.1] at hq
      have htk : (E.take (k + 1)).filter (fun y => decide (y.path ≠ x.path)) = if E[k].path = x.path then (E.take k).filter (fun y => decide (y.path ≠ x.path)) else (E.take k).filter (fun y => decide (y.path ≠ x.path)) ++ [E[k]] := by
        rw [List.take_add_one, List.getElem?_eq_getElem hlt, List.filter_append]
        by_cases h : E[k].path = x.path <;> simp [h]
      obtain ⟨y, hy⟩ : ∃ y, E[k] = y := ⟨_, rfl⟩
      rw [hy] at f0 f1 f2 hq htk
      have hyp : edCells [y] = [S (pathT y.path), .bool y.dir, S y.data] := rfl
      obtain ⟨yt, hyt⟩ : ∃ yt, pathT y.path = yt := ⟨_, rfl⟩
      obtain ⟨yd, hyd⟩ : ∃ yd, y.dir = yd := ⟨_, rfl⟩
      obtain ⟨yb, hyb⟩ : ∃ yb, y.data = yb := ⟨_, rfl⟩
      rw [hyt, hyd, hyb] at hyp
      rw [hyt] at f0 hq
      rw [hyd] at f1
      rw [hyb] at f2
      have HJ := Lib.hid (And.intro own (And.intro kr (And.intro hb (And.intro hll (And.intro hlk (And.intro htk hyp))))))
      by_cases hpp : y.path = x.path
      · rw [decide_eq_true hpp] at hq
        have HT : Hid ((E.take (k + 1)).filter (fun y => decide (y.path ≠ x.path)) = l) := Lib.hid (by rw [htk, if_pos hpp, hll])
        clear own kr hb hll hlk htk hlp hcells hpv hx d0 d1 d2 hy hyp hyt hyd hyb hpp
        go_wp2_with (fail)
        go_quiet (fail)
        go_wp2
        go_roundw
        case rel =>
          obtain ⟨own, kr, hb, hll, hlk, htk, hyp⟩ := HJ.out
          exact ⟨k + 1, g, c, l, by omega, by go_num, rfl, by omega, HT.out.symm, own_kept own ((Kept.refl [] _).drewN _) (by simp), ((Kept.refl [] _).drewN _).at hb (by simp), kr.drewN _⟩
        case measure => simp [intOf]; omega
      · rw [decide_eq_false hpp] at hq
        have HT : Hid ((E.take (k + 1)).filter (fun y => decide (y.path ≠ x.path)) = l ++ [y]) := Lib.hid (by rw [htk, if_neg hpp, hll])
        obtain ⟨wd, hwd⟩ : ∃ n, wr.drewN n = wr.drewN n := ⟨0, rfl⟩
        clear own kr hb hll hlk htk hlp hcells hpv hx d0 d1 d2 hy hyp hyt hyd hyb hpp hwd
        go_wp2_with (fail)
        go_quiet (fail)
        go_wp2_with (first
          | (at_builtin
             refine wpList_append_lies _ rfl (.tmp 22) (.tmp 27) 45 rfl (w.heap.size + 1) 85 i0 (.agg #[S [], .bool false, S []]) 3 40 Tryz.underlying45 hi hz0 hz1 hz2 rfl (by decide) (.slice (some ⟨g, 0, none⟩) l.length c) l.length (edCells l) rfl (own_kept (T := []) HJ.out.1 (by first | exact Kept.refl _ _ | exact (Kept.refl _ _).drew | exact (Kept.refl _ _).alloc _ | exact ((Kept.refl _ _).alloc _).drew | exact ((Kept.refl _ _).drew).alloc _ | exact ((Kept.refl _ _).alloc _).alloc _ | exact ((Kept.refl _ _).drewN _).alloc _ | exact (Kept.refl _ _).drewN _) (by simp)) ⟨_, 0, none⟩ 1 1 [S yt, .bool yd, S yb] rfl rfl (World.news_of_block (heap_new _ _)) (by intro u hu; simp at hu; rcases hu with rfl | rfl | rfl <;> rfl) (by decide) (by unfold maxLen; omega) (by omega) (Nat.le_trans (lt_of_block HJ.out.2.2.1) (show Kept [] wr _ from by first | exact Kept.refl _ _ | exact (Kept.refl _ _).drew | exact (Kept.refl _ _).alloc _ | exact ((Kept.refl _ _).alloc _).drew | exact ((Kept.refl _ _).drew).alloc _ | exact ((Kept.refl _ _).alloc _).alloc _ | exact ((Kept.refl _ _).drewN _).alloc _ | exact (Kept.refl _ _).drewN _).size) _ rfl ?_
             intro g2 cap wa own1 gr1 hat hlt2
             have HA := Lib.hid (And.intro own1 (((show Kept [] wr _ from by first | exact Kept.refl _ _ | exact (Kept.refl _ _).drew | exact (Kept.refl _ _).alloc _ | exact ((Kept.refl _ _).alloc _).drew | exact ((Kept.refl _ _).drew).alloc _ | exact ((Kept.refl _ _).alloc _).alloc _ | exact ((Kept.refl _ _).drewN _).alloc _ | exact (Kept.refl _ _).drewN _).mono (by simp)).trans' (kept_grown gr1)))
             clear own1 gr1 hat hlt2))
        go_roundw
        case rel =>
          obtain ⟨own1, kg⟩ := HA.out
          obtain ⟨own, kr, hb, hll, hlk, htk, hyp⟩ := HJ.out
          have hgw : ∀ q, q ∈ (Value.slice (some ⟨g, 0, none⟩) l.length c).ownBlock.toList → w.heap.size + 1 ≤ q := fun q hq => (own_lt own q (Option.mem_toList.1 hq)).1
          refine ⟨k + 1, g2, cap, l ++ [y], by omega, by go_num, by rw [List.length_append]; rfl, by rw [List.length_append]; simp; omega, HT.out.symm, ?_, kg.at hb (fun hm => by have := hgw _ hm; omega), kr.new kg (fun q hq => by have := hgw q hq; omega)⟩
          unfold EDOwn
          rw [List.length_append, edCells_append, hyp]
          exact own1
        case measure => simp [intOf]; omega
    · have hke : k = E.length := by omega
      subst hke
      rw [List.take_length] at hll
      have HJ := Lib.hid (And.intro own (And.intro kr (And.intro hb hll)))
      clear own kr hb hll hlk hlt
      go_wp2_with (first
        | (at_builtin
           refine wpList_append_lies _ rfl (.tmp 29) (.tmp 31) 45 rfl (w.heap.size + 1) 85 i0 (.agg #[S [], .bool false, S []]) 3 40 Tryz.underlying45 hi hz0 hz1 hz2 rfl (by decide) (.slice (some ⟨g, 0, none⟩) l.length c) l.length (edCells l) rfl (own_kept (T := []) HJ.out.1 (by first | exact Kept.refl _ _ | exact (Kept.refl _ _).drew | exact (Kept.refl _ _).alloc _ | exact ((Kept.refl _ _).alloc _).drew | exact ((Kept.refl _ _).drew).alloc _ | exact ((Kept.refl _ _).alloc _).alloc _ | exact ((Kept.refl _ _).drewN _).alloc _ | exact (Kept.refl _ _).drewN _) (by simp)) ⟨_, 0, none⟩ 1 1 [S xt, .bool xd, S xb] rfl rfl (World.news_of_block (heap_new _ _)) (by intro u hu; simp at hu; rcases hu with rfl | rfl | rfl <;> rfl) (by decide) (by unfold maxLen; omega) (by omega) (Nat.le_trans (lt_of_block HJ.out.2.2.1) (show Kept [] wr _ from by first | exact Kept.refl _ _ | exact (Kept.refl _ _).drew | exact (Kept.refl _ _).alloc _ | exact ((Kept.refl _ _).alloc _).drew | exact ((Kept.refl _ _).drew).alloc _ | exact ((Kept.refl _ _).alloc _).alloc _ | exact ((Kept.refl _ _).drewN _).alloc _ | exact (Kept.refl _ _).drewN _).size) _ rfl ?_
           intro g2 cap wa own1 gr1 hat hlt2
           have HA := Lib.hid (And.intro own1 (((show Kept [] wr _ from by first | exact Kept.refl _ _ | exact (Kept.refl _ _).drew | exact (Kept.refl _ _).alloc _ | exact ((Kept.refl _ _).alloc _).drew | exact ((Kept.refl _ _).drew).alloc _ | exact ((Kept.refl _ _).alloc _).alloc _ | exact ((Kept.refl _ _).drewN _).alloc _ | exact (Kept.refl _ _).drewN _).mono (by simp)).trans' (kept_grown gr1)))
           clear own1 gr1 hat hlt2))
      go_ret
      obtain ⟨own1, kg⟩ := HA.out
      obtain ⟨own, kr, hb, hll⟩ := HJ.out
      have hgw : ∀ q, q ∈ (Value.slice (some ⟨g, 0, none⟩) l.length c).ownBlock.toList → w.heap.size + 1 ≤ q := fun q hq => (own_lt own q (Option.mem_toList.1 hq)).1
      refine ⟨⟨_, rfl, ?_⟩, kr.new kg (fun q hq => by have := hgw q hq; omega)⟩
      have e : setE E x = l ++ [x] := by unfold setE; rw [hll]
      have ex : edCells [x] = [S xt, .bool xd, S xb] := by rw [edv_one, HX.out.1, HX.out.2.1, HX.out.2.2]
      rw [e]
      unfold EDOwn
      rw [List.length_append, edCells_append, ex]
      exact own_lower own1 (by omega)
def froomF (E : List Nd) (p : List Nm) : Int := if findF E [] p.dropLast ≠ 0 then ((findF E [] p.dropLast : Nat) : Int) else if isDirP E p.dropLast = false then 163 else if (ent E p).isSome = true then 162 else 0
theorem rroom_any (w : World) (mb n given g0 : Nat) (v : Value) (E : List Nd) (h : FDAt w mb n given v E) (hE : E.length ≤ 1000) (hw : WF g0 E) (p : List Nm) (hp : PV p) (hne : p ≠ []) :
    Calls Tryz.prog 39 #[Ptr mb, S (pathT p)] w fun e w' => e = .returned (I (froomF E p)) ∧ Kept [] w w' := by
  have HU := Lib.hid (rup_any p hp hne w)
  have HF := Lib.hid (fun W (k : Kept [] w W) => rfind_any (h.same k) hE hw p.dropLast hp.front)
  have HD := Lib.hid (fun W (k : Kept [] w W) => rdir_any (h.same k) hE hw p.dropLast hp.front)
  have HA := Lib.hid (fun W (k : Kept [] w W) => rat_any W mb n given v E (h.same k) hE (fun x hx => hw.pv hx) p hp)
  have hneg := atF_neg (E := E) (p := p)
  obtain ⟨R, hR⟩ : ∃ R, froomF E p = R := ⟨_, rfl⟩
  have hR2 := hR
  unfold froomF at hR2
  obtain ⟨z, hz⟩ : ∃ z, findF E [] p.dropLast = z := ⟨_, rfl⟩
  obtain ⟨b, hb⟩ : ∃ b, isDirP E p.dropLast = b := ⟨_, rfl⟩
  obtain ⟨ai, hai⟩ : ∃ ai, atF E p = ai := ⟨_, rfl⟩
  obtain ⟨t, ht⟩ : ∃ t, pathT p = t := ⟨_, rfl⟩
  obtain ⟨t1, ht1⟩ : ∃ t, pathT p.dropLast = t := ⟨_, rfl⟩
  rw [ht] at HU HA ⊢
  rw [ht1] at HU HF HD
  rw [hz] at HF hR2
  rw [hb] at HD hR2
  rw [hai] at HA hneg
  rw [hR]
  have HRR := Lib.hid hR2
  clear h hE hw hp hne hR hR2 hz hb hai ht ht1
  go_enter Tryz.func39, Tryz.ntmps39
  go_wp2_with (fail)
  refine HU.out.mono ?_
  rintro e w1 ⟨rfl, k1⟩
  have K1 := Lib.hid k1
  clear k1
  go_wp2_with (fail)
  refine (HF.out w1 K1.out).mono ?_
  rintro e w2 ⟨rfl, k2⟩
  have K2 := Lib.hid (K1.out.trans' k2)
  clear k2
  by_cases hz : z = 0
  case neg =>
    have hz1 : ((z : Int) == 0) = false := by simp; omega
    have HX : Hid (R = z) := Lib.hid (by rw [← HRR.out, if_pos hz])
    clear hz hneg
    go_wp2_with (fail)
    go_ret
    exact ⟨by rw [HX.out]; rfl, K2.out⟩
  case pos =>
  subst hz
  cases b with
  | false =>
    have HX : Hid (R = 163) := Lib.hid (by rw [← HRR.out, if_neg (by simp), if_pos rfl])
    clear hneg
    go_wp2_with (fail)
    refine (HD.out w2 K2.out).mono ?_
    rintro e w3 ⟨rfl, rfl⟩
    go_wp2_with (fail)
    go_ret
    exact ⟨by rw [HX.out]; rfl, K2.out⟩
  | true =>
    cases hee : (ent E p).isSome with
    | true =>
      have hx : decide (ai < 0) = false := by rw [hneg]; cases h : ent E p <;> simp_all
      have hx2 : (0 : Int) ≤ ai := by simpa using hx
      have HX : Hid (R = 162) := Lib.hid (by rw [← HRR.out, if_neg (by simp), if_neg (by simp), if_pos hee])
      clear hneg hx hee
      go_wp2_with (fail)
      refine (HD.out w2 K2.out).mono ?_
      rintro e w3 ⟨rfl, hw3⟩
      replace hw3 := hw3.symm
      subst hw3
      go_wp2_with (fail)
      refine (HA.out w2 K2.out).mono ?_
      rintro e w3 ⟨rfl, hw3⟩
      replace hw3 := hw3.symm
      subst hw3
      go_wp2_with (fail)
      go_ret
      exact ⟨by rw [HX.out]; rfl, K2.out⟩
    | false =>
      have hx : decide (ai < 0) = true := by rw [hneg]; cases h : ent E p <;> simp_all
      have hx2 : ¬ (0 : Int) ≤ ai := by have : ai < 0 := by simpa using hx
                                        omega
      have HX : Hid (R = 0) := Lib.hid (by rw [← HRR.out, if_neg (by simp), if_neg (by simp), if_neg (by rw [hee]; decide)])
      clear hneg hx hee
      go_wp2_with (fail)
      refine (HD.out w2 K2.out).mono ?_
      rintro e w3 ⟨rfl, hw3⟩
      replace hw3 := hw3.symm
      subst hw3
      go_wp2_with (fail)
      refine (HA.out w2 K2.out).mono ?_
      rintro e w3 ⟨rfl, hw3⟩
      replace hw3 := hw3.symm
      subst hw3
      go_wp2_with (fail)
      go_ret
      exact ⟨by rw [HX.out]; rfl, K2.out⟩
abbrev DSE (mb n given : Nat) (v : Value) (w w' : World) : Prop := w'.cell? ⟨mb, 0, none⟩ = some (I n) ∧ w'.cell? ⟨mb, 1, none⟩ = some (I given) ∧ w'.cell? ⟨mb, 2, none⟩ = some v ∧ Kept [] w w'
theorem DSE.step {mb n given : Nat} {v : Value} {w w' w'' : World} (h : DSE mb n given v w w') (k : Kept [] w' w'') : DSE mb n given v w w'' := ⟨k.cellOf h.1, k.cellOf h.2.1, k.cellOf h.2.2.1, h.2.2.2.trans' k⟩
theorem DSE.k {mb n given : Nat} {v : Value} {w w' : World} (h : DSE mb n given v w w') : Kept [] w w' := h.2.2.2
theorem rtries_any (w : World) (mb nb n given given' g0 : Nat) (v v' : Value) (E E' : List Nd) (h : FDAt w mb n given v E) (h' : FDAt w nb n given' v' E') (hne : nb ≠ mb) (hE : E'.length ≤ 1000) (hg : given' ≤ 16777215) (hw : WF g0 E') (h8 : 8 ≤ n) (hn : n ≤ 255) (hv : ∀ q, v.ownBlock = some q → q ≠ mb) (hv' : ∀ q, v'.ownBlock = some q → q ≠ mb) :
    Calls Tryz.prog 42 #[Ptr mb, Ptr nb] w fun e w' => e = .returned (I (tryF n given E given' E').1) ∧ (∃ v'', (v'' = v ∨ v'' = v') ∧ FDAt w' mb n (tryF n given E given' E').2.1 v'' (tryF n given E given' E').2.2) ∧ Kept [mb] w w' := by
  obtain ⟨lp', lc', rfl⟩ : ∃ lp lc, v' = .slice lp E'.length lc := by obtain ⟨a, b, _, c, _⟩ := h'.2; exact ⟨a, b, c⟩
  have HW := Lib.hid (fun W (k : Kept [] w W) => rweightE_any W nb n given' g0 _ E' (h'.same k) hE hg hw)
  have HQ := Lib.hid (fun W => rquota_any n h8 (by omega) W)
  obtain ⟨a0, a1, a2⟩ := h.cells
  obtain ⟨b0, b1, b2⟩ := h'.cells
  have hwl := wfold_le hw E'.length (Nat.le_refl _)
  rw [List.take_length] at hwl
  have hWl : wL (objL given' E') ≤ 300000 := by
    have hk := kids_dsum hw []
    have hr : wF (rowD (kids E' [])) ≤ 7 := by unfold wF; exact pages_le _ (by rw [rowD_dsum]; omega)
    have h4 : wF (putN 4 (given' + 1)) ≤ 7 := by unfold wF; exact pages_le _ (by rw [putN_len]; omega)
    unfold objL
    rw [wL_append, wL_append]
    have e1 : wL (if given' = 0 then [] else [((1 : Int), putN 4 (given' + 1))]) ≤ 7 := by
      split
      · simp [wL]
      · simpa [wL] using h4
    have e2 : wL (if kids E' [] = [] then [] else [((64 : Int), rowD (kids E' []))]) ≤ 7 := by
      split
      · simp [wL]
      · simpa [wL] using hr
    omega
  have hq : (7 * (n - 4) / 2 : Nat) = quotaF n := rfl
  rw [hq] at HQ
  obtain ⟨Q, hQ⟩ : ∃ Q, quotaF n = Q := ⟨_, rfl⟩
  have hQI : (Q : Int) ≤ 2000 := by have : quotaF n ≤ 2000 := by unfold quotaF; omega
                                    omega
  obtain ⟨Z, hZ⟩ : ∃ Z, wL (objL given' E') = Z := ⟨_, rfl⟩
  have hZI : (Z : Int) ≤ 300000 := by omega
  rw [hQ] at HQ
  rw [hZ] at HW
  obtain ⟨R, hR⟩ : ∃ R, tryF n given E given' E' = R := ⟨_, rfl⟩
  have hR2 := hR
  unfold tryF at hR2
  rw [hZ, hQ] at hR2
  have HR := Lib.hid hR2
  rw [hR]
  have hlt : mb < w.heap.size := lt_of_block h.1
  have H := Lib.hid (And.intro h (And.intro h' (And.intro hne (And.intro hv hv'))))
  clear h h' hE hg hw h8 hn hwl hWl hq hQ hZ hR hR2 hne hv hv'
  have hds : DSE mb n given v w w := ⟨a0, a1, a2, Kept.refl _ _⟩
  have HB := Lib.hid (And.intro b0 (And.intro b1 b2))
  clear a1 a2 b0 b1 b2
  go_enter Tryz.func42, Tryz.ntmps42
  by_cases hq : Q < Z
  · have hqI : (Q : Int) < Z := by omega
    have hqd : decide ((Q : Int) < Z) = true := decide_eq_true hqI
    have HE : Hid (R = (166, given, E)) := Lib.hid (by rw [← HR.out, if_neg (by omega)])
    clear hq
    go_upto_region 1 with (fail)
    go_region_held3 (fun w' => DSE mb n given v w w')
      (first | with_reducible assumption | exact DSE.step hds ((Kept.refl _ _).drew) | exact DSE.step (by assumption) k2 | exact DSE.step (by assumption) ((Kept.refl _ _).drew))
      (first
        | (go_at_call 83; (with_reducible refine (HW.out _ (DSE.k (by assumption))).mono ?_); rintro e w2 ⟨rfl, k2⟩)
        | (go_at_call 84; (with_reducible refine (HQ.out _).mono ?_); rintro e w4 ⟨rfl, rfl⟩))
    rename_i hfin
    have HFI := Lib.hid hfin.2.2.2
    clear hfin
    go_wp2
    go_ret
    rw [HE.out]
    exact ⟨rfl, ⟨v, .inl rfl, H.out.1.same HFI.out⟩, HFI.out.mono (by simp)⟩
  · have hqI : ¬ (Q : Int) < Z := by omega
    have hqd : decide ((Q : Int) < Z) = false := decide_eq_false hqI
    have HE : Hid (R = (0, given', E')) := Lib.hid (by rw [← HR.out, if_pos (by omega)])
    clear hq
    go_upto_region 1 with (fail)
    go_region_held3 (fun w' => DSE mb n given v w w')
      (first | with_reducible assumption | exact DSE.step hds ((Kept.refl _ _).drew) | exact DSE.step (by assumption) k2 | exact DSE.step (by assumption) ((Kept.refl _ _).drew))
      (first
        | (go_at_call 83; (with_reducible refine (HW.out _ (DSE.k (by assumption))).mono ?_); rintro e w2 ⟨rfl, k2⟩)
        | (go_at_call 84; (with_reducible refine (HQ.out _).mono ?_); rintro e w4 ⟨rfl, rfl⟩))
    rename_i hfin
    have g0 := hfin.2.2.2.cellOf HB.out.1
    have g1 := hfin.2.2.2.cellOf HB.out.2.1
    have g2 := hfin.2.2.2.cellOf HB.out.2.2
    have hm := hfin.2.2.2.at H.out.1.1 (by simp)
    have m0 := cell_at hm 0
    have m1 := cell_at hm 1
    have m2 := cell_at hm 2
    have fr := free_at hm
    simp only [List.getElem?_toArray, List.getElem?_cons_zero, List.getElem?_cons_succ] at m0 m1 m2
    have HFI := Lib.hid (And.intro hfin.2.2.2 hm)
    clear hfin hm
    go_wp2_with (fail)
    go_ret
    rw [HE.out]
    obtain ⟨kf, hm⟩ := HFI.out
    obtain ⟨h, h', hne, hv, hv'⟩ := H.out
    have s1 := heap_setCell_at (heap_setCell_at (heap_setCell_at hm 0 (I n)) 1 (I given')) 2 (.slice lp' E'.length lc')
    have k0 : Kept [mb] w _ := kf.mono (by simp)
    have ks := ((k0.setCell (p := ⟨mb, 0, none⟩) (.inl (by simp)) (I n)).setCell (p := ⟨mb, 1, none⟩) (.inl (by simp)) (I given')).setCell (p := ⟨mb, 2, none⟩) (.inl (by simp)) (.slice lp' E'.length lc')
    exact ⟨rfl, ⟨_, .inr rfl, s1, h'.2.kept ks (fun q hq => by simpa using hv' q hq)⟩, ks⟩
def RDP (w : World) (mb n : Nat) (v : Value) (R : Int × Nat × List Nd) (e : Ending) (w' : World) : Prop :=
 e = .returned (I R.1) ∧ (∃ v'', FDAt w' mb n R.2.1 v'' R.2.2 ∧ ∀ q, v''.ownBlock = some q → v.ownBlock = some q ∨ (w.heap.size ≤ q ∧ q < w'.heap.size)) ∧ Kept [mb] w w'
theorem RDP.no {w w' : World} {mb n given : Nat} {v : Value} {E : List Nd} (h : FDAt w mb n given v E) (k : Kept [] w w') (r : Int) : RDP w mb n v (r, given, E) (.returned (I r)) w' :=
 ⟨rfl, ⟨v, h.same k, fun q hq => .inl hq⟩, k.mono (by simp)⟩
structure DF (w : World) (mb n given : Nat) (v : Value) (E : List Nd) : Prop where
 at' : FDAt w mb n given v E
 few : E.length ≤ 900
 gv : given ≤ 16777000
 wf : WF given E
 eight : 8 ≤ n
 big : n ≤ 255
 own : ∀ q, v.ownBlock = some q → q ≠ mb
theorem DF.same {w w' : World} {mb n given : Nat} {v : Value} {E : List Nd} (h : DF w mb n given v E) (k : Kept [] w w') : DF w' mb n given v E := ⟨h.at'.same k, h.few, h.gv, h.wf, h.eight, h.big, h.own⟩
theorem DF.lt {w : World} {mb n given : Nat} {v : Value} {E : List Nd} (h : DF w mb n given v E) : mb < w.heap.size := lt_of_block h.at'.1
theorem rtry_new {w w1 w2 : World} {mb n given given' : Nat} {v : Value} {E E' : List Nd} (h : DF w mb n given v E) (k1 : Kept [] w w1) {v' : Value} {lo : Nat} (own : EDOwn w1 lo v' E') (hlo : w.heap.size ≤ lo) (k2 : Kept [] w1 w2) (hE : E'.length ≤ 1000) (hg : given' ≤ 16777215) (hw : WF given' E') :
  Calls Tryz.prog 42 #[Ptr mb, Ptr w2.heap.size] (w2.alloc (.cells #[I n, I given', v'] 47)) (RDP w mb n v (tryF n given E given' E')) := by
 have ka : Kept [] w (w2.alloc (.cells #[I n, I given', v'] 47)) := (k1.trans' k2).alloc _
 have hlt := h.lt
 have hmb : ∀ q, v'.ownBlock = some q → w.heap.size ≤ q := fun q hq => Nat.le_trans hlo (own_lt own q hq).1
 have hs : w.heap.size ≤ w2.heap.size := (k1.trans' k2).size
 refine (rtries_any _ mb w2.heap.size n given given' given' v v' E E' (h.at'.same ka) ⟨heap_new _ _, ((EDOwn.at own).same k2).same ((Kept.refl _ _).alloc _)⟩ (by omega) hE hg hw h.eight h.big h.own (fun q hq => by have := hmb q hq; omega)).mono ?_
 rintro e w' ⟨rfl, ⟨v'', hv, hf⟩, k⟩
 refine ⟨rfl, ⟨v'', hf, fun q hq => ?_⟩, (ka.mono (by simp)).trans' k⟩
 rcases hv with rfl | rfl
 ·exact .inl hq
 ·exact .inr ⟨hmb q hq, Nat.lt_of_lt_of_le (own_lt own q hq).2 (Nat.le_trans (k2.size) (Nat.le_trans ((Kept.refl [] w2).alloc _).size k.size))⟩
theorem room_if {α : Type} (E : List Nd) (p : List Nm) (f : Int → α) (k : α) : (if findF E [] p.dropLast ≠ 0 then f ((findF E [] p.dropLast : Nat) : Int) else if isDirP E p.dropLast = false then f 163 else if (ent E p).isSome = true then f 162 else k) = if froomF E p ≠ 0 then f (froomF E p) else k := by
 by_cases h1 : findF E [] p.dropLast = 0
 ·cases h2 : isDirP E p.dropLast
  ·simp [h1, h2, froomF]
  ·cases h3 : (ent E p).isSome
   ·simp [froomF, h1, h2, h3]
   ·simp [froomF, h1, h2, h3]
 ·simp [froomF, h1]
theorem room_ok {E : List Nd} {p : List Nm} (h : froomF E p = 0) : ent E p = none ∧ findF E [] p.dropLast = 0 ∧ isDirP E p.dropLast = true := by
 unfold froomF at h
 by_cases h1 : findF E [] p.dropLast = 0
 ·rw [if_neg (by simpa using h1)] at h
  cases h2 : isDirP E p.dropLast
  ·rw [h2] at h; simp at h
  ·rw [h2, if_neg (by decide)] at h
   cases h3 : ent E p
   ·exact ⟨rfl, h1, rfl⟩
   ·rw [h3] at h; simp at h
 ·rw [if_pos h1] at h; omega
theorem setE_new {E : List Nd} {x : Nd} (h : ent E x.path = none) : setE E x = E ++ [x] := by
 unfold setE
 rw [List.filter_eq_self.2]
 intro y hy
 simpa using ent_none h y hy
theorem rmake_any (w : World) (mb n given : Nat) (v : Value) (E : List Nd) (h : DF w mb n given v E) (s : List UInt8) (hs : s.length ≤ 1048576) (dir : Bool) :
  Calls Tryz.prog 13 #[Ptr mb, S s, .bool dir] w (RDP w mb n v (makeF n given E s dir)) := by
 have HI := Lib.hid (rispath_any s hs w)
 have H := Lib.hid h
 obtain ⟨R, hR⟩ : ∃ R, makeF n given E s dir = R := ⟨_, rfl⟩
 have HR := Lib.hid hR
 rw [hR]
 cases hp : WX.pathF s with
 | none =>
  rw [hp] at HI
  have HE : Hid (R = (160, given, E)) := Lib.hid (by rw [← HR.out]; unfold makeF; rw [hp])
  clear h hR hp hs
  go_enter Tryz.func13, Tryz.ntmps13
  go_wp2_with (fail)
  refine HI.out.mono ?_
  rintro e w1 ⟨rfl, k1⟩
  have K1 := Lib.hid k1
  clear k1
  go_wp2_with (fail)
  go_ret
  rw [HE.out]
  exact RDP.no H.out.at' K1.out 160
 | some p =>
  rw [hp] at HI
  obtain ⟨hsp, hpv⟩ := pathT_of hp
  have hrt := pathT_root hpv
  rw [← hsp] at hrt
  have HS := Lib.hid (And.intro hsp hpv)
  have HMK : Hid (R = if p = [] then (162, given, E) else if findF E [] p.dropLast ≠ 0 then (((findF E [] p.dropLast : Nat) : Int), given, E) else if isDirP E p.dropLast = false then (163, given, E) else if (ent E p).isSome = true then (162, given, E) else if (kids E p.dropLast).length = 6 then (165, given, E) else tryF n given E (given + 1) (E ++ [⟨p, given + 2, dir, []⟩])) := Lib.hid (by rw [← HR.out]; unfold makeF; rw [hp])
  by_cases hpn : p = []
  ·rw [decide_eq_true hpn] at hrt
   have HE : Hid (R = (162, given, E)) := Lib.hid (by rw [HMK.out, if_pos hpn])
   clear h hR hp hs hsp hpv hpn
   go_enter Tryz.func13, Tryz.ntmps13
   go_wp2_with (fail)
   refine HI.out.mono ?_
   rintro e w1 ⟨rfl, k1⟩
   have K1 := Lib.hid k1
   clear k1
   go_wp2_with (fail)
   go_ret
   rw [HE.out]
   exact RDP.no H.out.at' K1.out 162
  rw [decide_eq_false hpn] at hrt
  have HRO := Lib.hid (fun W (k : Kept [] w W) => rroom_any W mb n given given v E (h.at'.same k) (by have := h.few; omega) h.wf p hpv hpn)
  have HU := Lib.hid (fun W => rup_any p hpv hpn W)
  have HNM := Lib.hid (fun W (k : Kept [] w W) => rnames_any W mb n given given v E (h.at'.same k) (by have := h.few; omega) h.wf p.dropLast hpv.front)
  rw [← hsp] at HRO HU
  obtain ⟨t1, ht1⟩ : ∃ t1, pathT p.dropLast = t1 := ⟨_, rfl⟩
  rw [ht1] at HU HNM
  obtain ⟨ro, hro⟩ : ∃ ro, froomF E p = ro := ⟨_, rfl⟩
  rw [hro] at HRO
  have HPN := Lib.hid (And.intro hpn hro)
  have HMK2 : Hid (R = if ro ≠ 0 then (ro, given, E) else if (kids E p.dropLast).length = 6 then (165, given, E) else tryF n given E (given + 1) (E ++ [⟨p, given + 2, dir, []⟩])) := Lib.hid (by
   rw [HMK.out, if_neg hpn, ← hro]
   exact room_if E p (fun r => (r, given, E)) _)
  obtain ⟨c0, c1, c2⟩ := h.at'.cells
  obtain ⟨lp, lc, rfl⟩ : ∃ lp lc, v = .slice lp E.length lc := by obtain ⟨a, b, _, c, _⟩ := h.at'.2; exact ⟨a, b, c⟩
  have HC := Lib.hid (And.intro c0 (And.intro c1 c2))
  have hgI : (given : Int) ≤ 16777000 := by have := h.gv; omega
  clear h hR hp hs hsp hpv hpn ht1 hro c0 c1 c2
  go_enter Tryz.func13, Tryz.ntmps13
  go_wp2_with (fail)
  refine HI.out.mono ?_
  rintro e w1 ⟨rfl, k1⟩
  have K1 := Lib.hid k1
  clear k1
  go_wp2_with (fail)
  refine (HRO.out w1 K1.out).mono ?_
  rintro e w2 ⟨rfl, k2⟩
  have K2 := Lib.hid (K1.out.trans' k2)
  clear k2
  by_cases hz : ro = 0
  case neg =>
   have hzb : (ro != 0) = true := by simpa using hz
   have HE : Hid (R = (ro, given, E)) := Lib.hid (by rw [HMK2.out, if_pos hz])
   clear hz
   go_wp2_with (fail)
   go_ret
   rw [HE.out]
   exact RDP.no H.out.at' K2.out ro
  case pos =>
  subst hz
  have HMK3 : Hid (R = if (kids E p.dropLast).length = 6 then (165, given, E) else tryF n given E (given + 1) (E ++ [⟨p, given + 2, dir, []⟩])) := Lib.hid (by rw [HMK2.out, if_neg (by simp)])
  go_wp2_with (fail)
  refine (HU.out w2).mono ?_
  rintro e w3 ⟨rfl, k3⟩
  have K3 := Lib.hid (K2.out.trans' k3)
  clear k3
  go_wp2_with (fail)
  refine (HNM.out w3 K3.out).mono ?_
  rintro e w4 ⟨⟨lv, rfl, hlv⟩, k4⟩
  obtain ⟨kl, hkl⟩ : ∃ kl, kids E p.dropLast = kl := ⟨_, rfl⟩
  have hk6 := H.out.wf.few p.dropLast
  rw [hkl] at hlv hk6
  obtain ⟨ap, ac, rfl⟩ : ∃ ap ac, lv = .slice ap kl.length ac := by obtain ⟨a, b, c, _⟩ := hlv; rw [List.length_map] at c; exact ⟨a, b, c⟩
  have K4 := Lib.hid (K3.out.trans' k4)
  have HK := Lib.hid hkl
  clear hlv k4 hkl
  by_cases h6 : kl.length = 6
  ·have h6I : (6 : Int) ≤ kl.length := by omega
   have HE : Hid (R = (165, given, E)) := Lib.hid (by rw [HMK3.out, HK.out, if_pos h6])
   clear h6 hk6
   go_wp2_with (fail)
   go_ret
   rw [HE.out]
   exact RDP.no H.out.at' K4.out 165
  have h6I : ¬ (6 : Int) ≤ kl.length := by omega
  have HE : Hid (R = tryF n given E (given + 1) (E ++ [⟨p, given + 2, dir, []⟩])) := Lib.hid (by rw [HMK3.out, HK.out, if_neg h6])
  have hkl5 : kl.length ≤ 5 := by omega
  have HKL := Lib.hid hkl5
  clear h6 hk6 hkl5
  have y0 := K4.out.cellOf HC.out.1
  have y1 := K4.out.cellOf HC.out.2.1
  have y2 := K4.out.cellOf HC.out.2.2
  have hnone := room_ok HPN.out.2
  obtain ⟨N1, hN1⟩ : ∃ N1, given + 1 = N1 := ⟨_, rfl⟩
  have hN1I : (given : Int) + 1 = (N1 : Int) := by omega
  have hsE := setE_new (E := E) (x := ⟨p, given + 2, dir, []⟩) hnone.1
  have HPU := Lib.hid (fun W (k : Kept [] w4 W) => rputE_any W (.slice lp E.length lc) E ((H.out.at'.2.same K4.out).same k) (by have := H.out.few; omega) (fun y hy => H.out.wf.pv hy) ⟨p, given + 2, dir, []⟩ HS.out.2)
  rw [hsE, ← HS.out.1] at HPU
  have hwf := wf_make H.out.wf HPN.out.1 HS.out.2.1 HS.out.2.2 hnone.2.2 hnone.1 (by rw [HK.out]; exact HKL.out) dir
  have hlen : (E ++ [(⟨p, given + 2, dir, []⟩ : Nd)]).length ≤ 1000 := by rw [List.length_append]; have := H.out.few; simp; omega
  obtain ⟨E2, hE2⟩ : ∃ E2, E ++ [(⟨p, given + 2, dir, []⟩ : Nd)] = E2 := ⟨_, rfl⟩
  rw [hE2] at HPU HE hwf hlen
  rw [hN1] at hwf HE
  have HTR := Lib.hid (fun W1 (k1 : Kept [] w W1) (v' : Value) lo (own : EDOwn W1 lo v' E2) (hlo : w.heap.size ≤ lo) => rtry_new (given' := N1) H.out k1 own hlo (Kept.refl _ W1) hlen (by have := H.out.gv; omega) hwf)
  have hwr : IntKind.i64.wrap (N1 : Int) = N1 := IntWalk.i64_in _ ⟨by omega, by omega⟩
  have HN1 := Lib.hid hN1
  clear hnone hN1 hsE hE2 hwf hlen
  go_upto_region 11 with (fail)
  go_region_law (first
   | (go_simp; go_at_call 43; (with_reducible refine (HPU.out _ (by first | exact Kept.refl _ _ | exact (Kept.refl _ _).drew)).mono ?_); rintro e w5 ⟨⟨v5, rfl, own5⟩, k5⟩; obtain ⟨p5, c5, rfl⟩ := own_form own5; have k5' := (show Kept [] w4 _ from by first | exact k5 | exact (Kept.refl [] w4).drew.trans' k5); have z0 := k5'.cellOf y0; have z1 := k5'.cellOf y1; have z2 := k5'.cellOf y2)
   | (go_simp; go_at_call 42; (with_reducible refine (HTR.out _ (K4.out.trans' k5') _ _ own5 (by first | exact K4.out.size | exact K4.out.drew.size)).mono ?_); rintro e w6 ⟨rfl, hP⟩))
  all_goals
   have HP := Lib.hid hP
   clear hP
   go_wp2
   go_ret
   rw [HE.out]
   exact ⟨rfl, HP.out⟩
end Go.Proofs.YteplbljjlbdhaaaGreatDoor
