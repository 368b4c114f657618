/- Walks and lemmas on the program of this seat, used by its statements; each theorem bears its own conditions. -/
import Derived.Test.YtncdfaocemfgfaaGreatQA
import Derived.Test.YtncdfaocemfgfaaGreatQE
import Derived.Handy
import Derived.OwnWalk
import Derived.Deep.AppendLies
import Derived.IntWalk
import Derived.Deep.CutRange
import Derived.Deep.RegionHeld3
import Derived.Deep.RegionLaw
import Derived.Maps.OwnSet
import Derived.Maps.Range
import Derived.Deep.OwnRows
import Derived.Shelf.SlMaps.Clone
import Derived.Laws.CopyOwn
import Derived.Laws.IdiomCopy
namespace Go.Proofs.YtncdfaocemfgfaaGreat
open Go.RowKit
set_option linter.unusedVariables false
set_option linter.unusedSimpArgs false
set_option maxHeartbeats 8000000
set_option maxRecDepth 100000
/-! ### holds -/
theorem RD.all {w : World} {sb : Nat} {V : OM} (h : RD w sb V) : keysF V 0 1073741824 = V.map (·.1) := by
  obtain ⟨h0, hk, hlen, hw⟩ := h.facts
  unfold keysF
  rw [List.filter_eq_self.2 (fun y hy => by obtain ⟨p, hp, rfl⟩ := List.mem_map.1 hy; have := (hk p hp).1; simp; omega), List.take_of_length_le (by rw [List.length_map]; exact Nat.le_trans hlen (by decide))]
set_option maxHeartbeats 8000000 in
theorem holds_any (w : World) (sb : Nat) (V : OM) (h : RD w sb V) (v : Value) (hp : PsAt w v (mapA Ob.val V)) :
    Calls Tryz.prog 12 #[Ptr sb, v] w fun e w' => e = .returned (.bool true) ∧ Kept [] w w' := by
  obtain ⟨hs, hk, hlen, hwt⟩ := h.facts
  have HK := Lib.hid (h.keys 0 1073741824)
  rw [h.all] at HK
  have HW := Lib.hid (fun W (k : Kept [] w W) => (h.same k).weight)
  have HG := Lib.hid (fun W (k : Kept [] w W) x (hx : I64 x) => (h.same k).get x hx)
  have hml : (mapA Ob.val V).length = V.length := by unfold mapA; rw [List.length_map]
  have HS := Lib.hid (fun W (k : Kept [] w W) => rsum_any W v (mapA Ob.val V) (hp.same k) (by omega) (fun p hpm => by obtain ⟨q, hq, rfl⟩ := List.mem_map.1 hpm; exact (hk q hq).2.2))
  rw [show sumA wF (mapA Ob.val V) = sumA wO V from sum_map Ob.val wF V] at HS
  obtain ⟨pl, cl, gl, rfl, hpl, hcl⟩ := hp
  rw [hml]
  simp only [hml] at HS
  have HE : Hid (∀ i (hi : i < V.length), getF V V[i].1 = V[i].2.val ∧ (valM V V[i].1).isSome = true) := Lib.hid (fun i hi => by
    have := find_of_mem hs (k := V[i].1) (o := V[i].2) (List.getElem_mem hi)
    unfold getF valM
    rw [this]
    exact ⟨rfl, rfl⟩)
  have H0 : Hid ((valM V 0).isSome = false) := Lib.hid (by
    unfold valM
    rw [find_lt (fun p hpm => by have := (hk p hpm).1; omega)]
    rfl)
  have HP : Hid ((V ≠ [] → pl = some ⟨gl, 0, none⟩) ∧ ∀ (i : Nat) (hi : i < V.length), w.cell? ⟨gl, i * 2, none⟩ = some (I V[i].1) ∧ w.cell? ⟨gl, i * 2 + 1, none⟩ = some (S V[i].2.val)) := Lib.hid (by
    refine ⟨fun hne => hpl (by intro hh; apply hne; have : V.length = 0 := by rw [← hml, hh]; rfl
                               exact List.length_eq_zero_iff.1 this), fun i hi => ?_⟩
    have := hcl i (by rw [hml]; exact hi)
    unfold mapA at this
    simpa using this)
  have HV := Lib.hid (And.intro hk hlen)
  have hVI : (V.length : Int) ≤ 2000 := by omega
  obtain ⟨X, hX⟩ : ∃ X, sumA wO V = X := ⟨_, rfl⟩
  rw [hX] at HW HS
  clear h hs hk hlen hwt hpl hcl hml hX
  go_enter Tryz.func12, Tryz.ntmps12
  go_wp2_with (fail)
  refine HK.out.mono ?_
  rintro e w1 ⟨kv, rfl, own, k1⟩
  obtain ⟨pk, ck, rfl⟩ := own_form own
  have H1 := Lib.hid (And.intro own k1)
  rw [List.length_map]
  clear own k1
  go_wp2_with (fail)
  refine (HW.out w1 H1.out.2).mono ?_
  rintro e w2 ⟨rfl, hw⟩
  replace hw := hw.symm
  subst hw
  go_wp2_with (fail)
  refine (HS.out w1 H1.out.2).mono ?_
  rintro e w2 ⟨rfl, hw⟩
  replace hw := hw.symm
  subst hw
  go_wp2_with (fail)
  go_loopw [6] (fun v6 wr => ∃ i : Nat, i ≤ V.length ∧ v6 = I i ∧ Kept [] w1 wr) (fun v6 _ => V.length - (intOf v6).toNat)
  case atStart => exact ⟨0, Nat.zero_le _, rfl, Kept.refl _ _⟩
  case round =>
    obtain ⟨i, hi, rfl, kr⟩ := hrel
    have KR := Lib.hid kr
    by_cases hlt : i < V.length
    · have hltI : (i : Int) < V.length := by omega
      obtain ⟨hpl, hcl⟩ := HP.out
      have hpe := hpl (by intro hh; rw [hh] at hlt; simp at hlt)
      subst hpe
      obtain ⟨d0, d1⟩ := hcl i hlt
      obtain ⟨g1, g2⟩ := HE.out i hlt
      obtain ⟨k1b, k2b, k3b⟩ := HV.out.1 V[i] (List.getElem_mem hlt)
      have hkx := H1.out.2.trans' kr
      have e0 := hkx.cellOf d0
      have HGT := Lib.hid (HG.out wr hkx V[i].1 ⟨by omega, by omega⟩)
      rw [g1, g2] at HGT
      obtain ⟨gk, ck', ek, _, hck⟩ := row_cells1 (by have := H1.out.1; rw [List.length_map] at this; exact this) (by omega : V.length ≠ 0)
      cases ek
      have dk := hck i hlt
      rw [List.getElem?_map, List.getElem?_map, List.getElem?_eq_getElem hlt] at dk
      simp only [Option.map_some] at dk
      obtain ⟨⟨x, ob⟩, hx⟩ : ∃ x, V[i] = x := ⟨_, rfl⟩
      rw [hx] at e0 d0 d1 HGT dk
      simp only at e0 d0 d1 HGT dk
      obtain ⟨vl, hvl⟩ : ∃ vl, ob.val = vl := ⟨_, rfl⟩
      rw [hvl] at d1 HGT
      have HD := Lib.hid (And.intro d0 (And.intro d1 dk))
      clear hpl hcl d0 d1 g1 g2 k1b k2b k3b hkx hck dk hx hvl kr
      go_wp2_with (fail)
      refine HGT.out.mono ?_
      rintro e w3 ⟨rfl, k3⟩
      have kk := KR.out.trans' k3
      have f0 := (H1.out.2.trans' kk).cellOf HD.out.1
      have f1 := (H1.out.2.trans' kk).cellOf HD.out.2.1
      have f2 := kk.cellOf HD.out.2.2
      have KK := Lib.hid kk
      clear kk k3 e0
      go_wp2_with (fail)
      go_quiet (fail)
      go_wp2_with (fail)
      go_roundw
      case rel => exact ⟨i + 1, by omega, by go_num, KK.out.drewN nq⟩
      case measure => simp [intOf]; omega
    · have hie : i = V.length := by omega
      subst hie
      have HGT := Lib.hid (HG.out wr (H1.out.2.trans' kr) 0 ⟨by omega, by omega⟩)
      rw [H0.out] at HGT
      clear kr
      go_wp2_with (fail)
      refine HGT.out.mono ?_
      rintro e w3 ⟨rfl, k3⟩
      have K3 := Lib.hid ((H1.out.2.trans' KR.out).trans' k3)
      clear k3
      go_wp2_with (fail)
      go_ret
      exact ⟨rfl, K3.out⟩

end Go.Proofs.YtncdfaocemfgfaaGreat
