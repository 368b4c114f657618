/- Walks and lemmas on the program of this seat, used by its statements; each theorem bears its own conditions. -/
import Derived.Test.YtncdfaocemfgfaaGreatQA
import Derived.Test.YtncdfaocemfgfaaGreatQE
import Derived.Test.YtncdfaocemfgfaaGreatXQB
import Derived.Handy
import Derived.OwnWalk
import Derived.Deep.AppendLies
import Derived.IntWalk
import Derived.Deep.CutRange
import Derived.Deep.RegionHeld3
import Derived.Deep.RegionLaw
import Derived.Maps.OwnSet
import Derived.Maps.Range
import Derived.Deep.OwnRows
import Derived.Shelf.SlMaps.Clone
import Derived.Laws.CopyOwn
import Derived.Laws.IdiomCopy
namespace Go.Proofs.YtncdfaocemfgfaaGreat
open Go.RowKit
set_option linter.unusedVariables false
set_option linter.unusedSimpArgs false
section
set_option maxHeartbeats 8000000
set_option maxRecDepth 100000
/-! ### The document's May and Put -/
abbrev DS (rb n : Nat) (v : Value) (w w' : World) : Prop := w'.cell? ⟨rb, 0, none⟩ = some (I n) ∧ w'.cell? ⟨rb, 1, none⟩ = some v ∧ Kept [] w w'
theorem DS.step {rb n : Nat} {v : Value} {w w' w'' : World} (h : DS rb n v w w') (k : Kept [] w' w'') : DS rb n v w w'' := ⟨k.cellOf h.1, k.cellOf h.2.1, h.2.2.trans' k⟩
theorem formG_151 {last : Int} {c : Ch} {l : List Ch} (h : c.key < 1 ∨ 2147483647 < c.key ∨ 256 < c.val.length) : formG last (c :: l) = 151 := by unfold formG; rw [if_pos h]
theorem formG_1 {last : Int} {c : Ch} {l : List Ch} (h : ¬ (c.key < 1 ∨ 2147483647 < c.key ∨ 256 < c.val.length)) (h2 : c.key ≤ last ∨ (c.drop = true ∧ c.val ≠ [])) : formG last (c :: l) = 1 := by unfold formG; rw [if_neg h, if_pos h2]
theorem formG_on {last : Int} {c : Ch} {l : List Ch} (h : ¬ (c.key < 1 ∨ 2147483647 < c.key ∨ 256 < c.val.length)) (h2 : ¬ (c.key ≤ last ∨ (c.drop = true ∧ c.val ≠ []))) : formG last (c :: l) = formG c.key l := by conv => lhs; unfold formG; rw [if_neg h, if_neg h2]
set_option maxHeartbeats 8000000 in
theorem rmay_any (w : World) (rb n : Nat) (v : Value) (V : OM) (hb : w.heap[rb]? = some (.cells #[I n, v] 42 (0, 0))) (hp : PsAt w v (mapA Ob.val V)) (hs : SortedA V) (h8 : 8 ≤ n) (hn : n ≤ 255) (hV : V.length ≤ 2000) (hV2 : ∀ p ∈ V, p.2.val.length ≤ 256) (cv : Value) (l : List Ch) (hc : ChsAt w cv l) (hl : l.length ≤ 4611686018427387904) :
    Calls Tryz.prog 19 #[Ptr rb, cv] w fun e w' => e = .returned (I (mayF n V l)) ∧ Kept [] w w' := by
  have c0 := cell_at hb 0
  have c1 := cell_at hb 1
  simp only [List.getElem?_toArray, List.getElem?_cons_zero, List.getElem?_cons_succ] at c0 c1
  obtain ⟨p2, c2, b, o, rfl, hp2, hcc⟩ := id hc
  have hlI : (l.length : Int) ≤ 4611686018427387904 := by omega
  have HM : Hid (mayF n V l = if formF l ≠ 0 then formF l else if 400 < (recF l).length then 151 else if (quotaF n : Int) < becW V l (sumA wO V) then 152 else 0) := Lib.hid rfl
  have HC := Lib.hid (And.intro hp2 (And.intro hcc (And.intro hp (And.intro hs (And.intro h8 (And.intro hn (And.intro hV (And.intro hV2 (And.intro hc hl)))))))))
  have HD := Lib.hid (And.intro c0 c1)
  clear hp2 hcc hp hs h8 hn hV hV2 hl hc hb
  go_enter Tryz.func19, Tryz.ntmps19
  go_wp2_with (fail)
  go_loopw [5, 6] (fun v5 v6 wr => ∃ (j N : Nat) (last : Int), j ≤ l.length ∧ v6 = I j ∧ v5 = I N ∧ N = (recF (l.take j)).length ∧ formF l = formG last (l.drop j) ∧ (j = 0 → last = 0) ∧ (0 < j → ∃ c, l[j - 1]? = some c ∧ last = c.key) ∧ (j : Int) ≤ last ∧ last ≤ 2147483647 ∧ N ≤ 263 * j ∧ Kept [] w wr) (fun _ v6 _ => l.length - (intOf v6).toNat)
  case atStart => exact ⟨0, 0, 0, by omega, rfl, rfl, rfl, rfl, fun _ => rfl, fun h => by omega, by omega, by omega, by omega, Kept.refl _ _⟩
  case round =>
    obtain ⟨j, N, last, hj, rfl, rfl, hN, hf, hl0, hl1, hjl, hl2, hN2, kr⟩ := hrel
    have hjI : (j : Int) ≤ 2147483647 := by omega
    have hNI : (N : Int) ≤ 564882307321 := by omega
    by_cases hlt : j < l.length
    · obtain ⟨hp2, hcc, _⟩ := HC.out
      have hpe := hp2 (by intro h; rw [h] at hlt; simp at hlt)
      subst hpe
      have hltI : (j : Int) < l.length := by omega
      obtain ⟨d0, d1, d2⟩ := hcc j hlt
      have e0 := kr.cellOf d0
      have e1 := kr.cellOf d1
      have e2 := kr.cellOf d2
      have hdr : l.drop j = l[j] :: l.drop (j + 1) := List.drop_eq_getElem_cons hlt
      have hnx : (recF (l.take (j + 1))).length = N + (if l[j].drop then 5 else 7 + l[j].val.length) := by
        rw [List.take_add_one, List.getElem?_eq_getElem hlt]
        show (recF (l.take j ++ [l[j]])).length = _
        rw [recF_snoc, List.length_append, chB_len, hN]
      rw [hdr] at hf
      have hky : l[j + 1 - 1]? = some l[j] := List.getElem?_eq_getElem hlt
      have HP : Hid (0 < j → ∃ z, z = last ∧ wr.cell? ⟨b, o + (j - 1) * 3, none⟩ = some (I z)) := Lib.hid (fun hj0 => by
        obtain ⟨c, hc1, hc2⟩ := hl1 hj0
        have hjm : j - 1 < l.length := by omega
        rw [List.getElem?_eq_getElem hjm] at hc1
        cases hc1
        exact ⟨_, hc2.symm, kr.cellOf (hcc (j - 1) hjm).1⟩)
      obtain ⟨⟨ky, vl, dr⟩, hx⟩ : ∃ x, l[j] = x := ⟨_, rfl⟩
      rw [hx] at e0 e1 e2 hf hnx hky
      simp only at e0 e1 e2 hky hnx
      have HX := Lib.hid (And.intro hf (And.intro hnx (And.intro hky (And.intro kr hl0))))
      clear hp2 hcc d0 d1 d2 hdr hf hnx hky kr hl0 hl1 hx hN hj
      by_cases b1 : ky < 1
      · have HE : Hid (mayF n V l = 151) := Lib.hid (by rw [HM.out, HX.out.1, formG_151 (.inl b1)]; rfl)
        go_wp2_with (fail)
        go_ret
        exact ⟨by rw [HE.out]; rfl, HX.out.2.2.2.1⟩
      have b1d : decide (ky < 1) = false := decide_eq_false b1
      by_cases b2 : 2147483647 < ky
      · have HE : Hid (mayF n V l = 151) := Lib.hid (by rw [HM.out, HX.out.1, formG_151 (.inr (.inl b2))]; rfl)
        go_wp2_with (fail)
        go_ret
        exact ⟨by rw [HE.out]; rfl, HX.out.2.2.2.1⟩
      have b2d : decide (2147483647 < ky) = false := decide_eq_false b2
      by_cases b3 : 256 < vl.length
      · have HE : Hid (mayF n V l = 151) := Lib.hid (by rw [HM.out, HX.out.1, formG_151 (.inr (.inr b3))]; rfl)
        have b3I : (256 : Int) < vl.length := by omega
        go_wp2_with (fail)
        go_ret
        exact ⟨by rw [HE.out]; rfl, HX.out.2.2.2.1⟩
      have b3d : decide (256 < (vl.length : Int)) = false := decide_eq_false (by omega)
      have b3d2 : decide (256 < vl.length) = false := decide_eq_false b3
      have hgood : Hid (¬ (ky < 1 ∨ 2147483647 < ky ∨ 256 < vl.length)) := Lib.hid (by omega)
      have hk1 : (1 : Int) ≤ ky := by omega
      have hk2 : ky ≤ 2147483647 := by omega
      have hvl : (vl.length : Int) ≤ 256 := by omega
      clear b1 b2 b3
      rcases Nat.eq_zero_or_pos j with hj0 | hj0
      · subst hj0
        have hla := HX.out.2.2.2.2 rfl
        subst hla
        have hkl : ¬ ky ≤ 0 := by omega
        simp only [Nat.zero_mul, Nat.add_zero] at e0 e1 e2
        clear HP
        cases dr with
        | false =>
          have HN : Hid (¬ ky ≤ 0) := Lib.hid hkl
          go_wp2_with (fail)
          go_quiet (fail)
          go_wp2_with (fail)
          go_roundw
          case rel => exact ⟨0 + 1, N + (7 + vl.length), ky, by omega, by go_num, by go_num, HX.out.2.1.symm, HX.out.1.trans (formG_on hgood.out (by rintro (h | ⟨h1, h2⟩); (· have hq := HN.out; simp only at h; omega); (· first | exact h2 rfl | cases h1))), fun h => by omega, fun _ => ⟨_, HX.out.2.2.1, rfl⟩, by omega, by omega, by omega, HX.out.2.2.2.1.drewN nq⟩
          case measure => simp [intOf]; omega
        | true =>
          by_cases hvn : vl = []
          · subst hvn
            have HN : Hid (¬ ky ≤ 0) := Lib.hid hkl
            go_wp2_with (fail)
            go_quiet (fail)
            go_wp2_with (fail)
            go_roundw
            case rel => exact ⟨0 + 1, N + 5, ky, by omega, by go_num, by go_num, HX.out.2.1.symm, HX.out.1.trans (formG_on hgood.out (by rintro (h | ⟨h1, h2⟩); (· have hq := HN.out; simp only at h; omega); (· first | exact h2 rfl | cases h1))), fun h => by omega, fun _ => ⟨_, HX.out.2.2.1, rfl⟩, by omega, by omega, by omega, HX.out.2.2.2.1.drewN nq⟩
            case measure => simp [intOf]; omega
          · have hvb : (vl != []) = true := by simpa using hvn
            have hvb2 : (!vl.isEmpty) = true := by simpa using hvn
            have hvb3 : (vl == []) = false := by simpa using hvn
            have HE : Hid (mayF n V l = 1) := Lib.hid (by rw [HM.out, HX.out.1, formG_1 hgood.out (.inr ⟨rfl, hvn⟩)]; rfl)
            go_wp2_with (fail)
            go_quiet (fail)
            go_wp2_with (fail)
            go_ret
            exact ⟨by rw [HE.out]; rfl, HX.out.2.2.2.1.drewN nq⟩
      · obtain ⟨j', rfl⟩ : ∃ j', j = j' + 1 := ⟨j - 1, by omega⟩
        obtain ⟨z, rfl, pz⟩ := HP.out (by omega)
        rw [show j' + 1 - 1 = j' by omega] at pz
        have hj'I : (j' : Int) < l.length := by omega
        have hj'0 : (0 : Int) < (j' : Int) + 1 := by omega
        have hj'b : (j' : Int) ≤ 2147483647 := by omega
        have hj'N : j' < l.length := by omega
        have HQ := Lib.hid (And.intro hjl (And.intro hl2 (And.intro hN2 hjI)))
        clear HP hjl hl2 hN2 hjI hj'b
        by_cases hkl : ky ≤ z
        · have HE : Hid (mayF n V l = 1) := Lib.hid (by rw [HM.out, HX.out.1, formG_1 hgood.out (.inl hkl)]; rfl)
          have hkd : decide (ky ≤ z) = true := decide_eq_true hkl
          go_wp2_with (fail)
          go_quiet (fail)
          go_wp2_with (fail)
          go_ret
          exact ⟨by rw [HE.out]; rfl, HX.out.2.2.2.1.drewN nq⟩
        · have hkd : decide (ky ≤ z) = false := decide_eq_false hkl
          cases dr with
          | false =>
            have HN : Hid (¬ ky ≤ z) := Lib.hid hkl
            go_wp2_with (fail)
            go_quiet (fail)
            go_wp2_with (fail)
            go_roundw
            case rel => obtain ⟨hjl, hl2, hN2, hjI⟩ := HQ.out; exact ⟨j' + 1 + 1, N + (7 + vl.length), ky, by omega, by go_num, by go_num, HX.out.2.1.symm, HX.out.1.trans (formG_on hgood.out (by rintro (h | ⟨h1, h2⟩); (· have hq := HN.out; simp only at h; omega); (· first | exact h2 rfl | cases h1))), fun h => by omega, fun _ => ⟨_, HX.out.2.2.1, rfl⟩, by omega, by omega, by omega, HX.out.2.2.2.1.drewN nq⟩
            case measure => simp [intOf]; omega
          | true =>
            by_cases hvn : vl = []
            · subst hvn
              have HN : Hid (¬ ky ≤ z) := Lib.hid hkl
              go_wp2_with (fail)
              go_quiet (fail)
              go_wp2_with (fail)
              go_roundw
              case rel => obtain ⟨hjl, hl2, hN2, hjI⟩ := HQ.out; exact ⟨j' + 1 + 1, N + 5, ky, by omega, by go_num, by go_num, HX.out.2.1.symm, HX.out.1.trans (formG_on hgood.out (by rintro (h | ⟨h1, h2⟩); (· have hq := HN.out; simp only at h; omega); (· first | exact h2 rfl | cases h1))), fun h => by omega, fun _ => ⟨_, HX.out.2.2.1, rfl⟩, by omega, by omega, by omega, HX.out.2.2.2.1.drewN nq⟩
              case measure => simp [intOf]; omega
            · have hvb : (vl != []) = true := by simpa using hvn
              have hvb2 : (!vl.isEmpty) = true := by simpa using hvn
              have hvb3 : (vl == []) = false := by simpa using hvn
              have HE : Hid (mayF n V l = 1) := Lib.hid (by rw [HM.out, HX.out.1, formG_1 hgood.out (.inr ⟨rfl, hvn⟩)]; rfl)
              go_wp2_with (fail)
              go_quiet (fail)
              go_wp2_with (fail)
              go_ret
              exact ⟨by rw [HE.out]; rfl, HX.out.2.2.2.1.drewN nq⟩
    · have hje : j = l.length := by omega
      subst hje
      rw [List.take_length] at hN
      have hf0 : formF l = 0 := by rw [hf, List.drop_length]; rfl
      have HF := Lib.hid (And.intro hN (And.intro hf0 kr))
      have d0 := kr.cellOf HD.out.1
      have d1 := kr.cellOf HD.out.2
      clear hf hl0 hl1 hjl hl2 hN2 hlt hj
      by_cases hbig : 400 < N
      · have hbI : (400 : Int) < N := by omega
        have HE : Hid (mayF n V l = 151) := Lib.hid (by rw [HM.out, HF.out.2.1, if_neg (by simp), ← HF.out.1, if_pos hbig])
        clear hN hf0 kr
        go_wp2_with (fail)
        go_ret
        exact ⟨by rw [HE.out]; rfl, HF.out.2.2⟩
      · have hbI : ¬ (400 : Int) < N := by omega
        have hbd : decide ((400 : Int) < N) = false := decide_eq_false hbI
        have hbd2 : decide (400 < N) = false := decide_eq_false hbig
        obtain ⟨hp2, hcc, hp, hs, h8, hn, hV, hV2, hc, hl⟩ := HC.out
        have hl2 : l.length ≤ 400 := by
          have : ∀ l : List Ch, l.length ≤ (recF l).length := fun l => by
            induction l with
            | nil => simp
            | cons c l ih =>
              rw [recF_cons, List.length_append, List.length_cons]
              have := chB_len c
              split at this <;> omega
          have := this l
          omega
        have hform := formG_ok 0 l hf0
        have hsum := sum_with 0 0 l hform.1 hs
        obtain ⟨W, hW⟩ : ∃ W, withV l (mapA Ob.val V) = W := ⟨_, rfl⟩
        have hWt := with_take 0 0 l hform.1 hs
        rw [hW] at hsum hWt
        have hWl : W.length ≤ 2400 := by
          rw [hWt]
          have : ∀ (l : List Ch) (M : OM), (takesF M l 0 0).length ≤ M.length + l.length := fun l => by
            induction l with
            | nil => intro M; exact Nat.le_refl _
            | cons c l ih =>
              intro M
              have h1 := ih (take1 0 0 M c)
              have h2 : (take1 0 0 M c).length ≤ M.length + 1 := by
                have := len_del c.key M
                unfold take1
                split
                · omega
                · rw [len_ins]; omega
              rw [List.length_cons]
              show (takesF (take1 0 0 M c) l 0 0).length ≤ _
              omega
          have h3 := this l V
          unfold mapA
          rw [List.length_map]
          omega
        have hWv : ∀ p ∈ W, p.2.length ≤ 256 := by
          intro p hpm
          rw [hWt] at hpm
          obtain ⟨q, hq, rfl⟩ := List.mem_map.1 hpm
          have hso := takes_sorted 0 0 l hs
          have hfi := find_of_mem hso (k := q.1) (o := q.2) hq
          have hvv := takes_vals 0 0 l (fun c hcm => (hform.2 c hcm).2.2.2.1) hs (fun k o ho => hV2 _ (find_mem ho))
          exact hvv _ _ hfi
        have HWI := Lib.hid (fun W' (k : Kept [] w W') => rwith_any W' v (mapA Ob.val V) (hp.same k) (by unfold mapA; rw [List.length_map]; omega) _ l (hc.same k) (by omega))
        rw [hW] at HWI
        have HSU := Lib.hid (fun W' v' (h : PsAt W' v' W) => rsum_any W' v' W h (by omega) hWv)
        have HQU := Lib.hid (fun W' => rquota_any n h8 (by omega) W')
        have hds : DS rb n v w wr := ⟨d0, d1, kr⟩
        have HK := Lib.hid (And.intro hsum hWl)
        obtain ⟨X, hX⟩ : ∃ X, sumA wF W = X := ⟨_, rfl⟩
        obtain ⟨Q, hQ⟩ : ∃ Q, 7 * (n - 4) / 2 = Q := ⟨_, rfl⟩
        have HXQ := Lib.hid (And.intro hX hQ)
        rw [hX] at HSU
        rw [hQ] at HQU
        clear hp2 hcc hp hs h8 hn hV hV2 hc hl hl2 hform hsum hW hWt hWl hWv hN hf0 kr hX hQ d0 d1
        have HRES : Hid (mayF n V l = if Q < X then 152 else 0) := Lib.hid (by
          rw [HM.out, HF.out.2.1, if_neg (by simp), if_neg (by rw [← HF.out.1]; exact hbig), ← HK.out.1, HXQ.out.1, show quotaF n = Q from HXQ.out.2]
          by_cases h : Q < X
          · rw [if_pos h, if_pos (by omega)]
          · rw [if_neg h, if_neg (by omega)])
        by_cases hq : Q < X
        · have hqI : (Q : Int) < X := by omega
          have hqd : decide ((Q : Int) < X) = true := decide_eq_true hqI
          have HE : Hid (mayF n V l = 152) := Lib.hid (by rw [HRES.out, if_pos hq])
          go_upto_region 14 with (fail)
          go_region_held3 (fun w' => DS rb n v w w')
            (first | with_reducible assumption | exact DS.step hds ((Kept.refl _ _).drew) | exact DS.step (by assumption) k2 | exact DS.step (by assumption) ((Kept.refl _ _).drew))
            (first
              | (go_at_call 20; (with_reducible refine (HWI.out _ (And.right (And.right (by assumption)))).mono ?_); rintro e w2 ⟨v', rfl, own, k2⟩; have hps := (ps_of_own own).1)
              | (go_at_call 32; (with_reducible refine (HSU.out _ _ hps).mono ?_); rintro e w3 ⟨rfl, rfl⟩)
              | (go_at_call 46; (with_reducible refine (HQU.out _).mono ?_); rintro e w4 ⟨rfl, rfl⟩))
          rename_i hfin
          have HFI := Lib.hid hfin.2.2
          clear hfin
          go_wp2
          go_ret
          exact ⟨by rw [HE.out]; rfl, HFI.out⟩
        · have hqI : ¬ (Q : Int) < X := by omega
          have hqd : decide ((Q : Int) < X) = false := decide_eq_false hqI
          have hqd2 : decide (Q < X) = false := decide_eq_false hq
          have HE : Hid (mayF n V l = 0) := Lib.hid (by rw [HRES.out, if_neg hq])
          go_upto_region 14 with (fail)
          go_region_held3 (fun w' => DS rb n v w w')
            (first | with_reducible assumption | exact DS.step hds ((Kept.refl _ _).drew) | exact DS.step (by assumption) k2 | exact DS.step (by assumption) ((Kept.refl _ _).drew))
            (first
              | (go_at_call 20; (with_reducible refine (HWI.out _ (And.right (And.right (by assumption)))).mono ?_); rintro e w2 ⟨v', rfl, own, k2⟩; have hps := (ps_of_own own).1)
              | (go_at_call 32; (with_reducible refine (HSU.out _ _ hps).mono ?_); rintro e w3 ⟨rfl, rfl⟩)
              | (go_at_call 46; (with_reducible refine (HQU.out _).mono ?_); rintro e w4 ⟨rfl, rfl⟩))
          rename_i hfin
          have HFI := Lib.hid hfin.2.2
          clear hfin
          go_wp2
          go_ret
          exact ⟨by rw [HE.out]; rfl, HFI.out⟩
end
section
set_option maxHeartbeats 8000000
set_option maxRecDepth 100000
/-! ### The document's Put; holds -/
def DocAt (w : World) (rb n : Nat) (v : Value) (V : OM) : Prop := w.heap[rb]? = some (.cells #[I n, v] 42 (0, 0)) ∧ PsAt w v (mapA Ob.val V)
set_option maxHeartbeats 4000000 in
theorem rput_any (w : World) (rb n : Nat) (v : Value) (V : OM) (h : DocAt w rb n v V) (hq : ∀ q, v.ownBlock = some q → q ≠ rb) (hs : SortedA V) (h8 : 8 ≤ n) (hn : n ≤ 255) (hV : V.length ≤ 2000) (hV2 : ∀ p ∈ V, p.2.val.length ≤ 256) (cv : Value) (l : List Ch) (hc : ChsAt w cv l) (hl : l.length ≤ 4611686018427387904) :
    Calls Tryz.prog 6 #[Ptr rb, cv] w fun e w' => e = .returned (I (mayF n V l)) ∧ ∃ v', DocAt w' rb n v' (putF n V l) ∧ (∀ q, v'.ownBlock = some q → v.ownBlock = some q ∨ (w.heap.size ≤ q ∧ q < w'.heap.size)) ∧ Kept [rb] w w' := by
  obtain ⟨hb, hp⟩ := h
  have HM := Lib.hid (rmay_any w rb n v V hb hp hs h8 hn hV hV2 cv l hc hl)
  obtain ⟨y, hy⟩ : ∃ y, mayF n V l = y := ⟨_, rfl⟩
  rw [hy] at HM
  have HB := Lib.hid (And.intro hb (And.intro hp (And.intro hq (And.intro hs (And.intro hV (And.intro hc hy))))))
  have c1 := cell_at hb 1
  simp only [List.getElem?_toArray, List.getElem?_cons_zero, List.getElem?_cons_succ] at c1
  have hrlt := lt_of_block hb
  have HLT := Lib.hid hrlt
  clear hb hp hq hs h8 hn hV hV2 hl hy hrlt hc
  by_cases hz : y = 0
  case neg =>
    have hzb : (y == 0) = false := by simpa using hz
    go_enter Tryz.func6, Tryz.ntmps6
    go_wp2_with (fail)
    refine HM.out.mono ?_
    rintro e w1 ⟨rfl, k1⟩
    have K1 := Lib.hid k1
    clear k1
    go_wp2_with (fail)
    go_ret
    obtain ⟨hb, hp, hq, hs, hV, hc, hy⟩ := HB.out
    refine ⟨by rw [hy]; rfl, v, ⟨K1.out.at hb (by simp), ?_⟩, fun q h => .inl h, K1.out.mono (by simp)⟩
    rw [show putF n V l = V from by unfold putF; rw [if_neg (by rw [hy]; exact hz)]]
    exact hp.same K1.out
  case pos =>
    subst hz
    go_enter Tryz.func6, Tryz.ntmps6
    go_wp2_with (fail)
    refine HM.out.mono ?_
    rintro e w1 ⟨rfl, k1⟩
    have d1 := k1.cellOf c1
    have HW : Hid (Calls Tryz.prog 20 #[v, cv] w1 fun e w' => ∃ v', e = .returned v' ∧ w'.ownsRow w1.heap.size 73 2 v' (withV l (mapA Ob.val V)).length (pairCells (withV l (mapA Ob.val V))) ∧ Kept [] w1 w') := Lib.hid (by
      obtain ⟨hb, hp, hq, hs, hV, hc, hy⟩ := HB.out
      have hf := may_form hy
      have hr : (recF l).length ≤ 400 := by
        unfold mayF at hy
        rw [if_neg (by rw [hf]; simp)] at hy
        split at hy
        · cases hy
        · omega
      have hl2 : l.length ≤ 400 := by
        have : ∀ l : List Ch, l.length ≤ (recF l).length := fun l => by
          induction l with
          | nil => simp
          | cons c l ih =>
            rw [recF_cons, List.length_append, List.length_cons]
            have := chB_len c
            split at this <;> omega
        have := this l
        omega
      exact rwith_any w1 v (mapA Ob.val V) (hp.same k1) (by unfold mapA; rw [List.length_map]; omega) cv l (hc.same k1) (by omega))
    have K1 := Lib.hid k1
    clear k1
    go_wp2_with (fail)
    refine HW.out.mono ?_
    rintro e w2 ⟨v', rfl, own, k2⟩
    have hb2 := (K1.out.trans' k2).at HB.out.1 (by simp)
    have e1 := cell_at hb2 1
    have ef := free_at hb2
    simp only [List.getElem?_toArray, List.getElem?_cons_zero, List.getElem?_cons_succ] at e1
    have H2 := Lib.hid (And.intro own (And.intro k2 hb2))
    clear own k2 hb2
    obtain ⟨pv, cv', hpv⟩ := own_form H2.out.1
    subst hpv
    go_wp2_with (fail)
    go_ret
    obtain ⟨hb, hp, hq, hs, hV, hc, hy⟩ := HB.out
    obtain ⟨own, k2, hb2⟩ := H2.out
    have hbf := heap_setCell_at hb2 1 (.slice pv (withV l (mapA Ob.val V)).length cv')
    have kf : Kept [rb] w2 (w2.setCell ⟨rb, 1, none⟩ (.slice pv (withV l (mapA Ob.val V)).length cv')) := (Kept.refl _ _).setCell (.inl (by simp)) _
    obtain ⟨hps, hown⟩ := ps_of_own own
    have hlt := HLT.out
    have hks := K1.out.size
    refine ⟨by rw [hy]; rfl, _, ⟨by simpa using hbf, ?_⟩, fun q h => .inr (by have := hown q h; have := (own_lt own q h).2; have := kf.size; exact ⟨by omega, by omega⟩), ((K1.out.trans' k2).mono (by simp) : Kept [rb] w w2).trans' kf⟩
    have hpt : putF n V l = takesF V l 0 0 := by unfold putF; rw [if_pos hy]
    rw [hpt, ← with_take 0 0 l (formG_ok 0 l (may_form hy)).1 hs]
    exact hps.kept kf (fun q h hm => by have := hown q h; simp at hm; omega)
end

end Go.Proofs.YtncdfaocemfgfaaGreat
