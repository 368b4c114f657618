/- Walks and lemmas on the program of this seat, used by its statements; each theorem bears its own conditions. -/
import Derived.Test.YtdkjlaldhohbmaaGreatPB
import Derived.Handy
import Derived.OwnWalk
import Derived.Deep.AppendLies
import Derived.IntWalk
import Derived.Deep.CutRange
import Derived.Deep.RegionHeld3
import Derived.Deep.RegionLaw
import Derived.Maps.OwnSet
import Derived.Maps.Range
import Derived.Laws.IdiomCopy
namespace Go.Proofs.YtdkjlaldhohbmaaGreat
open Go.RowKit
set_option linter.unusedVariables false
set_option linter.unusedSimpArgs false
set_option maxHeartbeats 8000000
set_option maxRecDepth 100000
/-! ### May -/
def quotaF (n : Nat) : Nat := 7 * (n - 4) / 2
def mayF (n : Nat) (M : OM) (l : List Ch) : Int := if formF l ≠ 0 then formF l else if 400 < (recF l).length then 151 else if (quotaF n : Int) < becW M l (sumA wO M) then 152 else 0
theorem oquota_any (w : World) (sb pb lb mb kb fb bb cb n : Nat) (x : Int) (M : OM) (C : List (Int × Nat)) (h : CoreAt w sb pb lb mb kb x M C) (f : Fl) (hp : PtAt w pb fb bb cb 1 n f) (hn : 8 ≤ n) :
    Calls Tryz.prog 13 #[Ptr sb] w fun e w' => e = .returned (I (quotaF n : Nat)) ∧ w' = w := by
  obtain ⟨c0, c1, c2, c3, c4, c5⟩ := h.cells
  have HS := Lib.hid (size_any w pb fb bb cb 1 n f hp)
  have hb := hp.bound.1
  obtain ⟨N, hN⟩ : ∃ N : Nat, n * 512 = N := ⟨_, rfl⟩
  rw [hN] at HS
  have hd : (N : Int) / 512 = n := by omega
  have hN2 : (N : Int) ≤ 131072 := by omega
  have hnI : (n : Int) ≤ 256 := by omega
  have hnI8 : (8 : Int) ≤ n := by omega
  have HQ : Hid ((7 : Int) * ((n : Int) - 4) / 2 = (quotaF n : Nat)) := Lib.hid (by unfold quotaF; omega)
  have hq0 : (0 : Int) ≤ 7 * ((n : Int) - 4) := by omega
  clear h hp hb hN hn
  go_enter Tryz.func13, Tryz.ntmps13
  go_wp2_with (fail)
  refine HS.out.mono ?_
  rintro e w1 ⟨rfl, rfl⟩
  go_wp2_with (fail)
  go_ret
  exact ⟨by rw [← HQ.out]; rfl, rfl⟩
theorem recF_take_le (l : List Ch) (j : Nat) : (recF (l.take j)).length ≤ (recF l).length := recF_sub (List.take_sublist j l)
set_option maxHeartbeats 8000000 in
theorem may_any (w : World) (sb lb pb fb bb cb mb kb n : Nat) (v : Value) (st : St) (f : Fl) (h : SAt w sb lb pb fb bb cb mb kb n v st f) (hn : 8 ≤ n) (hsum : sumA wO st.M ≤ 100000) (l : List Ch) (cv : Value) (hv : ChsAt w cv l) (hl : l.length ≤ 4611686018427387904) :
    Calls Tryz.prog 26 #[Ptr sb, cv] w fun e w' => e = .returned (I (mayF n st.M l)) ∧ Kept [] w w' := by
  obtain ⟨C, hc, hct⟩ := h.core
  have HPD := Lib.hid (pdead_any w pb fb bb cb 1 n f h.lg.pt)
  rw [h.live.1] at HPD
  have HFM := Lib.hid (form_any l cv w hv hl)
  have HQU := Lib.hid (fun W (k : Kept [] w W) => oquota_any W sb pb lb mb kb fb bb cb n _ st.M C (hc.same k) f (h.lg.pt.same k) hn)
  have HBE : Hid (formF l = 0 → (recF l).length ≤ 400 → ∀ W, Kept [] w W → Calls Tryz.prog 40 #[Ptr sb, cv] W fun e w' => e = .returned (.tuple #[I (becW st.M l (sumA wO st.M)), .bool (othF st.M l)]) ∧ Kept [] W w') := Lib.hid (by
    intro hf hr W k
    have hl2 : l.length ≤ 1000 := by
      have : ∀ l : List Ch, l.length ≤ (recF l).length := fun l => by
        induction l with
        | nil => simp
        | cons c l ih =>
          rw [recF_cons, List.length_append, List.length_cons]
          have := chB_len c
          split at this <;> omega
      have := this l
      omega
    have hk := (formF_ok hf hr).2.1
    exact becomes_any W sb pb lb mb kb _ st.M C (hc.same k) l cv (hv.same k) hl2 (fun c hc => ⟨(hk c hc).1, (hk c hc).2.1, (hk c hc).2.2.1⟩) (vals_of h.inv) ⟨by omega, by omega⟩)
  have HOK : Hid (formF l = 0 → ∀ c ∈ l, c.val.length ≤ 256) := Lib.hid (fun hf c hcm => ((formG_ok 0 l hf).2 c hcm).2.2.2.1)
  obtain ⟨c0, c1, c2, c3, c4, c5⟩ := hc.cells
  obtain ⟨p, cp, b, o, rfl, hp, hcc⟩ := hv
  have HC := Lib.hid (And.intro hcc hp)
  have hlI : (l.length : Int) ≤ 4611686018427387904 := by omega
  obtain ⟨bw, hbw⟩ : ∃ bw, becW st.M l (sumA wO st.M) = bw := ⟨_, rfl⟩
  rw [hbw] at HBE
  obtain ⟨fo, hfo⟩ : ∃ fo, formF l = fo := ⟨_, rfl⟩
  have HM : Hid (mayF n st.M l = if fo ≠ 0 then fo else if 400 < (recF l).length then 151 else if (quotaF n : Int) < bw then 152 else 0) := Lib.hid (by unfold mayF; rw [hfo, hbw])
  rw [hfo] at HFM HBE HOK
  have hqn : (quotaF n : Int) ≤ 2000 := by unfold quotaF; have := h.bound.1; omega
  obtain ⟨Q, hQ⟩ : ∃ Q, quotaF n = Q := ⟨_, rfl⟩
  rw [hQ] at HM HQU hqn
  clear h hc hct hcc hp hbw hfo hQ hsum hn
  go_enter Tryz.func26, Tryz.ntmps26
  go_wp2_with (fail)
  refine HPD.out.mono ?_
  rintro e w1 ⟨rfl, hw⟩
  replace hw := hw.symm
  subst hw
  go_wp2_with (fail)
  refine HFM.out.mono ?_
  rintro e w1 ⟨rfl, k1⟩
  have K1 := Lib.hid k1
  clear k1 c0 c1 c2 c3 c4 c5
  by_cases hz : fo = 0
  case neg =>
    have hzb : (fo != 0) = true := by simpa using hz
    have hzb2 : (fo == 0) = false := by simpa using hz
    have HE := Lib.hid hz
    clear hz
    go_wp2_with (fail)
    go_ret
    exact ⟨by rw [HM.out, if_pos HE.out]; rfl, K1.out⟩
  subst hz
  have HM2 : Hid (mayF n st.M l = if 400 < (recF l).length then 151 else if (Q : Int) < bw then 152 else 0) := Lib.hid (by rw [HM.out, if_neg (by simp)])
  have hval := HOK.out (by first | rfl | trivial)
  have HVL := Lib.hid hval
  clear HM HOK hval
  go_wp2_with (fail)
  go_loopw [6, 29] (fun vn vi wr => ∃ (j N : Nat), j ≤ l.length ∧ vi = I j ∧ vn = I N ∧ N = (recF (l.take j)).length ∧ N ≤ 400 ∧ Kept [] w wr) (fun _ vi _ => l.length - (intOf vi).toNat)
  case atStart => exact ⟨0, 0, by omega, rfl, rfl, rfl, by omega, K1.out⟩
  case round =>
    obtain ⟨j, N, hj, rfl, rfl, hN, hN4, kr⟩ := hrel
    by_cases hlt : j < l.length
    · obtain ⟨hcc, hp⟩ := HC.out
      have hpe := hp (by intro h; subst h; simp at hlt)
      subst hpe
      have hltI : (j : Int) < l.length := by omega
      obtain ⟨d0, d1, d2⟩ := hcc j hlt
      have e0 := kr.cellOf d0
      have e1 := kr.cellOf d1
      have e2 := kr.cellOf d2
      have hv3 := HVL.out l[j] (List.getElem_mem hlt)
      obtain ⟨⟨ky, vl, dr⟩, hx⟩ : ∃ x, l[j] = x := ⟨_, rfl⟩
      have hnx : (recF (l.take (j + 1))).length = N + (if dr then 5 else 7 + vl.length) := by
        rw [List.take_add_one, List.getElem?_eq_getElem hlt, hx]
        show (recF (l.take j ++ [⟨ky, vl, dr⟩])).length = _
        rw [recF_snoc, List.length_append, chB_len, hN]
      rw [hx] at e0 e1 e2 hv3
      simp only at e0 e1 e2 hv3
      have hvI : (vl.length : Int) ≤ 256 := by omega
      have hNI : (N : Int) ≤ 400 := by omega
      have hle := recF_take_le l (j + 1)
      have HR := Lib.hid (And.intro hnx (And.intro (kr.alloc (Obj.cells #[I ky, S vl, .bool dr] 59)) hle))
      clear hnx kr hcc hp d0 d1 d2 hx hN hle
      cases dr with
      | true =>
        by_cases hbig : 400 < N + 5
        · have hbI : (400 : Int) < (N : Int) + 5 := by omega
          have HE : Hid (mayF n st.M l = 151) := Lib.hid (by
            rw [HM2.out, if_pos (by have h1 := HR.out.1; have h2 := HR.out.2.2; simp only [if_true] at h1; omega)])
          go_wp2_with (fail)
          go_ret
          exact ⟨by (rw [HE.out]; first | done | rfl), HR.out.2.1⟩
        · have hbI : ¬ (400 : Int) < (N : Int) + 5 := by omega
          have hbb : decide ((400 : Int) < (N : Int) + 5) = false := decide_eq_false hbI
          go_wp2_with (fail)
          go_roundw
          case rel => exact ⟨j + 1, N + 5, by omega, by go_num, by go_num, HR.out.1.symm, by omega, HR.out.2.1⟩
          case measure => simp [intOf]; omega
      | false =>
        obtain ⟨V, hV⟩ : ∃ V, vl.length = V := ⟨_, rfl⟩
        by_cases hbig : 400 < N + (7 + vl.length)
        · have hbI : (400 : Int) < (N : Int) + 5 + (2 + vl.length) := by omega
          have HE : Hid (mayF n st.M l = 151) := Lib.hid (by
            rw [HM2.out, if_pos (by have h1 := HR.out.1; have h2 := HR.out.2.2; simp only [Bool.false_eq_true, if_false] at h1; omega)])
          clear hV
          go_wp2_with (fail)
          go_ret
          exact ⟨by (rw [HE.out]; first | done | rfl), HR.out.2.1⟩
        · have hbI : ¬ (400 : Int) < (N : Int) + 5 + (2 + vl.length) := by omega
          have hbb : decide ((400 : Int) < (N : Int) + 5 + (2 + vl.length)) = false := decide_eq_false hbI
          clear hV
          go_wp2_with (fail)
          go_roundw
          case rel => exact ⟨j + 1, N + (7 + vl.length), by omega, by go_num, by go_num, HR.out.1.symm, by omega, HR.out.2.1⟩
          case measure => simp [intOf]; omega
    · have hje : j = l.length := by omega
      subst hje
      rw [List.take_length] at hN
      have HM3 : Hid (mayF n st.M l = if (Q : Int) < bw then 152 else 0) := Lib.hid (by rw [HM2.out, if_neg (by omega)])
      have HBW := Lib.hid (HBE.out (by first | rfl | trivial) (by omega) wr kr)
      have KR := Lib.hid kr
      clear hN kr HC
      go_wp2_with (fail)
      refine HBW.out.mono ?_
      rintro e w5 ⟨rfl, k5⟩
      have K5 := Lib.hid (KR.out.trans' k5)
      clear k5
      go_wp2_with (fail)
      refine (HQU.out _ K5.out).mono ?_
      rintro e w6 ⟨rfl, rfl⟩
      by_cases hq : (Q : Int) < bw
      · have HE : Hid (mayF n st.M l = 152) := Lib.hid (by rw [HM3.out, if_pos hq])
        go_wp2_with (fail)
        go_ret
        exact ⟨by (rw [HE.out]; first | done | rfl), K5.out⟩
      · have hqb : decide ((Q : Int) < bw) = false := decide_eq_false hq
        have HE : Hid (mayF n st.M l = 0) := Lib.hid (by rw [HM3.out, if_neg hq])
        go_wp2_with (fail)
        go_ret
        exact ⟨by (rw [HE.out]; first | done | rfl), K5.out⟩
/-! ### Put -/
def CsOK (n : Nat) (f : Fl) (D : Nat) : Prop := (∀ k, k < n → numAt f.cs (1 + k) = ((D + n - 1 - k) / n : Nat)) ∧ numAt f.cs 0 = 0 ∧ f.cs.length = n + 1
theorem div_step {n D k : Nat} (hk : k < n) : (D + 1 + n - 1 - k) / n = (D + n - 1 - k) / n + (if k = D % n then 1 else 0) := by
  have hn : 0 < n := by omega
  have hD := Nat.div_add_mod D n
  have hm := Nat.mod_lt D hn
  obtain ⟨q, hq⟩ : ∃ q, D / n = q := ⟨_, rfl⟩
  obtain ⟨r, hr⟩ : ∃ r, D % n = r := ⟨_, rfl⟩
  rw [hq, hr] at hD
  rw [hr] at hm ⊢
  have e1 : D + 1 + n - 1 - k = n * q + (r + n - k) := by omega
  have e2 : D + n - 1 - k = n * q + (r + n - 1 - k) := by omega
  rw [e1, e2, Nat.mul_add_div hn, Nat.mul_add_div hn]
  by_cases h1 : k = r
  · rw [if_pos h1]
    have a1 : (r + n - k) / n = 1 := by rw [show r + n - k = n by omega, Nat.div_self hn]
    have a2 : (r + n - 1 - k) / n = 0 := Nat.div_eq_of_lt (by omega)
    omega
  · rw [if_neg h1]
    by_cases h2 : k < r
    · have a1 : (r + n - k) / n = 1 := by rw [show r + n - k = n + (r - k) by omega, Nat.add_div_left _ hn, Nat.div_eq_of_lt (by omega)]
      have a2 : (r + n - 1 - k) / n = 1 := by rw [show r + n - 1 - k = n + (r - 1 - k) by omega, Nat.add_div_left _ hn, Nat.div_eq_of_lt (by omega)]
      omega
    · have a1 : (r + n - k) / n = 0 := Nat.div_eq_of_lt (by omega)
      have a2 : (r + n - 1 - k) / n = 0 := Nat.div_eq_of_lt (by omega)
      omega
theorem numAt_set (l : List Int) (i j : Nat) (x : Int) (hi : i < l.length) : numAt (l.set i x) j = if j = i then x else numAt l j := by
  unfold numAt
  rw [List.getD_eq_getElem?_getD, List.getD_eq_getElem?_getD]
  by_cases h : j = i
  · subst h; rw [if_pos rfl, List.getElem?_set_self hi]; rfl
  · rw [if_neg h, List.getElem?_set_ne (Ne.symm h)]
theorem cs_step {n D : Nat} {f f' : Fl} (h : CsOK n f D) (hn : 0 < n) (hD : D ≤ 900000000) (e : f'.cs = f.cs.set (1 + D % n) (wrap64 (numAt f.cs (1 + D % n) + 1))) : CsOK n f' (D + 1) := by
  obtain ⟨h1, h2, h3⟩ := h
  have hm := Nat.mod_lt D hn
  refine ⟨fun k hk => ?_, ?_, by rw [e, List.length_set]; exact h3⟩
  · rw [e, numAt_set _ _ _ _ (by omega), div_step hk]
    by_cases hkd : k = D % n
    · rw [if_pos (by omega), if_pos hkd, ← hkd, h1 k hk]
      have : (D + n - 1 - k) / n ≤ D + n := Nat.le_trans (Nat.div_le_self _ _) (by omega)
      have hlt : (D + n - 1 - k) / n ≤ D + 1 := by
        have := Nat.div_add_mod (D + n - 1 - k) n
        have h5 : (D + n - 1 - k) / n ≤ (D + n) / n := Nat.div_le_div_right (by omega)
        rw [Nat.add_div_right _ hn] at h5
        have := Nat.div_le_self D n
        omega
      obtain ⟨qq, hqq⟩ : ∃ qq, (D + n - 1 - k) / n = qq := ⟨_, rfl⟩
      rw [hqq] at hlt ⊢
      unfold wrap64
      omega
    · rw [if_neg (by omega), if_neg hkd, h1 k hk]; simp
  · rw [e, numAt_set _ _ _ _ (by omega), if_neg (by omega)]; exact h2
/-- A store that calls may go on. -/
structure GoodS (n : Nat) (st : St) (f : Fl) : Prop where
  eight : 8 ≤ n
  free : st.init.length + 2 ≤ n
  quota : sumA wO st.M ≤ quotaF n
  cs : CsOK n f st.D
def PutPost (sb lb pb fb bb cb mb kb n : Nat) (v : Value) (w : World) (st : St) (l : List Ch) (e : Ending) (w' : World) : Prop :=
  e = .returned (I (mayF n st.M l)) ∧ ∃ v' st' f', Fresh w v v' ∧ SAt w' sb lb pb fb bb cb mb kb n v' st' f' ∧ Kept (StT sb lb fb bb cb mb kb v) w w' ∧ GoodS n st' f' ∧ st'.D ≤ st.D + n ∧ ∀ k, valM st'.M k = if mayF n st.M l = 0 then valM (takesF st.M l 0 0) k else valM st.M k
theorem sroom_any (w : World) (sb lb pb fb bb cb mb kb n : Nat) (v : Value) (st : St) (f : Fl) (h : SAt w sb lb pb fb bb cb mb kb n v st f) : Calls Tryz.prog 43 #[Ptr lb] w fun e w' => e = .returned (I (7 - usedS st.last : Nat)) ∧ Kept [] w w' := by
  have hinv := h.inv
  have hfew := hinv.few
  have hb := h.bound.1
  have hlg := h.lg
  have hseg0 : sgs n st.D st.segs = sgs n st.D st.init ++ [((st.D + st.init.length) % n, st.num)] := by
    unfold St.segs; rw [sgs_snoc]; rfl
  rw [hseg0] at hlg
  have := room_any w lb pb fb bb cb 1 n v _ _ _ f false hlg (by rw [sgs_len]; omega) h.live.1 (Nat.mod_lt _ (by omega))
  rw [h.fl st.init.length (by omega), segs_last] at this
  simp only at this
  rw [seg_room _ _ (recs400 hinv (by simp [St.segs])) (by rw [usedS_eq]; exact (hinv.recs st.last (by simp [St.segs])).1), usedS_eq] at this
  exact this
theorem sfree_any (w : World) (sb lb pb fb bb cb mb kb n : Nat) (v : Value) (st : St) (f : Fl) (h : SAt w sb lb pb fb bb cb mb kb n v st f) : Calls Tryz.prog 44 #[Ptr lb] w fun e w' => e = .returned (I ((n : Int) - (st.init.length + 1 : Nat))) ∧ Kept [] w w' := by
  have hfew := h.inv.few
  have hb := h.bound.1
  have hl : (sgs n st.D st.segs).length = st.init.length + 1 := by rw [sgs_len, segs_len]
  have := free_any w lb pb fb bb cb 1 n v _ f false h.lg (by rw [hl]; omega)
  rw [hl] at this
  exact this
theorem formG_three (last : Int) (l : List Ch) : formG last l = 0 ∨ formG last l = 1 ∨ formG last l = 151 := by
  induction l generalizing last with
  | nil => exact .inl rfl
  | cons c t ih =>
    unfold formG
    split
    · exact .inr (.inr rfl)
    · split
      · exact .inr (.inl rfl)
      · exact ih c.key
theorem may_dead (n : Nat) (M : OM) (l : List Ch) : (mayF n M l == 2) = false := by
  unfold mayF
  split
  · rcases formG_three 0 l with h1 | h1 | h1 <;> simp [formF, h1]
  · split
    · rfl
    · split <;> rfl
set_option maxHeartbeats 8000000 in
theorem put_done {n : Nat} {st st' : St} {l : List Ch} {s a : Nat} (hI : InvS n st) (hI' : InvS n st') (hsame : ∀ k, valM st'.M k = valM st.M k) (hm : mayF n st.M l = 0) :
    sumA wO (takesF st'.M l s a) ≤ quotaF n ∧ ∀ k, valM (takesF st'.M l s a) k = valM (takesF st.M l 0 0) k := by
  have hf : formF l = 0 := by
    unfold mayF at hm
    split at hm
    · next h => exact absurd hm h
    · next h => simpa using h
  have hm2 : (recF l).length ≤ 400 ∧ becW st.M l (sumA wO st.M) ≤ quotaF n := by
    unfold mayF at hm
    rw [if_neg (by rw [hf]; simp)] at hm
    split at hm
    · cases hm
    · split at hm
      · cases hm
      · omega
  have hr := (formF_ok hf hm2.1).1
  have hv : ∀ k, valM (takesF st'.M l s a) k = valM (takesF st.M l 0 0) k := fun k => takes_val hI'.sorted hI.sorted hsame l hr s a 0 0 k
  refine ⟨?_, hv⟩
  have e1 := weight_same (takes_sorted s a l hI'.sorted) (takes_sorted 0 0 l hI.sorted) hv
  have e2 := becW_takes st.M 0 0 l hr st.M hI.sorted (fun _ _ => rfl)
  omega
set_option maxHeartbeats 8000000 in
theorem oput_any (w : World) (sb lb pb fb bb cb mb kb n : Nat) (v : Value) (st : St) (f : Fl) (h : SAt w sb lb pb fb bb cb mb kb n v st f) (hg : GoodS n st f) (hD : st.D ≤ 800000000) (l : List Ch) (cv : Value) (hv : ChsAt w cv l) (hvq : l ≠ [] → ∀ q, cv.ownBlock = some q → q < w.heap.size ∧ q ∉ StT sb lb fb bb cb mb kb v) (hl : l.length ≤ 4611686018427387904) :
    Calls Tryz.prog 12 #[Ptr sb, cv] w (PutPost sb lb pb fb bb cb mb kb n v w st l) := by
  have hb := h.bound.1
  have hq2 : quotaF n ≤ 2000 := by unfold quotaF; omega
  have hsum : sumA wO st.M ≤ 100000 := by have := hg.quota; omega
  have HMAY := Lib.hid (may_any w sb lb pb fb bb cb mb kb n v st f h hg.eight hsum l cv hv hl)
  obtain ⟨C, hc, hct⟩ := h.core
  have HTO := Lib.hid (fun W (k : Kept [] w W) e (he : (e == 2) = false) => stold_any W sb pb lb mb kb _ st.M C (hc.same k) e he)
  have hmv := may_dead n st.M l
  have hcl := hc.cells
  have HB := Lib.hid (And.intro h (And.intro hg (And.intro hD (And.intro hv (And.intro hvq (And.intro hb (And.intro hq2 hsum)))))))
  have HCC := Lib.hid (And.intro hc hct)
  have HLT : Hid (∀ x ∈ [sb, mb, kb], x < w.heap.size) := Lib.hid (fun x hx => (stT_lt h).1 x (List.mem_append.2 (.inl hx)))
  obtain ⟨mv, hmvE⟩ : ∃ mv, mayF n st.M l = mv := ⟨_, rfl⟩
  have HMV := Lib.hid hmvE
  rw [hmvE] at HMAY hmv
  have HTM := Lib.hid (fun W (k : Kept [] w W) => HTO.out W k mv hmv)
  clear h hg hD hv hvq hb hq2 hsum hc hct hcl hmvE hmv HTO
  go_enter Tryz.func12, Tryz.ntmps12
  go_wp2_with (fail)
  refine HMAY.out.mono ?_
  rintro e w1 ⟨rfl, k1⟩
  have K1 := Lib.hid k1
  clear k1
  by_cases hz : mv = 0
  case neg =>
    have hzb : (mv != 0) = true := by simpa using hz
    have hzb2 : (mv == 0) = false := by simpa using hz
    have HE := Lib.hid hz
    clear hz
    go_wp2_with (fail)
    refine (HTM.out w1 K1.out).mono ?_
    rintro e w2 ⟨rfl, hc2, k2⟩
    have H2 := Lib.hid (And.intro hc2 k2)
    clear hc2 k2
    go_wp2_with (fail)
    go_ret
    obtain ⟨h, hg, hD, hv, hvq, hb, hq2, hsum⟩ := HB.out
    have hlg := (h.lg.same K1.out).beside (w0 := w1) (sb := sb) (mb := mb) (kb := kb) (v := v) (H2.out.2.mono (by simp)) (Fresh.refl _ _) h.sep (fun x hx => Nat.lt_of_lt_of_le (HLT.out x hx) K1.out.size)
    refine ⟨by rw [HMV.out]; rfl, v, st, f, Fresh.refl _ _, ⟨hlg, ⟨C, H2.out.1, HCC.out.2⟩, h.fl, h.inv, h.live, h.sep⟩, (StT.sub0 K1.out).trans' (StT.subC (H2.out.2.mono (by simp))), hg, by omega, fun k => ?_⟩
    rw [if_neg (by rw [HMV.out]; exact HE.out)]
  subst hz
  have hm0 := HMV.out
  have hff : formF l = 0 := by
    unfold mayF at hm0
    split at hm0
    · next h => exact absurd hm0 h
    · next h => simpa using h
  have hrl : (recF l).length ≤ 400 := by
    have hm0 := HMV.out
    unfold mayF at hm0
    rw [if_neg (by rw [hff]; simp)] at hm0
    split at hm0
    · cases hm0
    · omega
  have hform := formF_ok hff hrl
  have hl2 : l.length ≤ 400 := by
    have : ∀ l : List Ch, l.length ≤ (recF l).length := fun l => by
      induction l with
      | nil => simp
      | cons c l ih =>
        rw [recF_cons, List.length_append, List.length_cons]
        have := chB_len c
        split at this <;> omega
    have := this l
    omega
  have hk3 : ∀ c ∈ l, 1 ≤ c.key ∧ c.key ≤ 2147483647 ∧ c.val.length ≤ 256 := fun c hc => ⟨(hform.2.1 c hc).1, (hform.2.1 c hc).2.1, (hform.2.1 c hc).2.2.1⟩
  have HBE := Lib.hid (becomes_any w1 sb pb lb mb kb _ st.M C (HCC.out.1.same K1.out) l cv (HB.out.2.2.2.1.same K1.out) (by omega) hk3 (vals_of HB.out.1.inv) ⟨by omega, by have := HB.out.2.2.2.2.2.2.2; omega⟩)
  have HFO := Lib.hid (And.intro hform (And.intro hl2 (And.intro hk3 hm0)))
  obtain ⟨ot, hot⟩ : ∃ ot, othF st.M l = ot := ⟨_, rfl⟩
  obtain ⟨bw, hbw⟩ : ∃ bw, becW st.M l (sumA wO st.M) = bw := ⟨_, rfl⟩
  rw [hot, hbw] at HBE
  have HOT := Lib.hid hot
  clear hm0 hff hrl hform hl2 hk3 hot hbw HTM HMAY
  go_wp2_with (fail)
  refine HBE.out.mono ?_
  rintro e w2 ⟨rfl, k2⟩
  have K2 := Lib.hid (K1.out.trans' k2)
  clear k2
  cases ot with
  | false =>
    go_wp2_with (fail)
    go_ret
    obtain ⟨h, hg, hD, hv, hvq, hb, hq2, hsum⟩ := HB.out
    refine ⟨by rw [HMV.out]; rfl, v, st, f, Fresh.refl _ _, h.same K2.out, StT.sub0 K2.out, hg, by omega, fun k => ?_⟩
    rw [if_pos HMV.out]
    exact (oth_same st.M h.inv.sorted 0 0 l HFO.out.1.1 HOT.out k).symm
  | true =>
    have HRE := Lib.hid (orecord_any l cv w2 (HB.out.2.2.2.1.same K2.out) (by have := HFO.out.2.1; omega) HFO.out.2.2.1)
    have HPG := Lib.hid (fun W => pages_any (recF l).length HFO.out.1.2.2 W)
    obtain ⟨pg, hpg⟩ : ∃ pg, pagesF (recF l).length = pg := ⟨_, rfl⟩
    rw [hpg] at HPG
    have hpg7 : pg ≤ 7 ∧ 1 ≤ pg := by rw [← hpg]; exact ⟨pgs_le7 HFO.out.1, pages_pos _⟩
    have HPE := Lib.hid hpg
    have hpgI : (pg : Int) ≤ 7 := by omega
    have hrlI : ((recF l).length : Int) ≤ 400 := by have := HFO.out.1.2.2; omega
    obtain ⟨RL, hRL⟩ : ∃ RL, recF l = RL := ⟨_, rfl⟩
    rw [hRL] at HRE HPG hrlI
    clear hpg hRL
    go_wp2_with (fail)
    refine HRE.out.mono ?_
    rintro e w3 ⟨rfl, k3⟩
    have K3 := Lib.hid (K2.out.trans' k3)
    clear k3
    go_wp2_with (fail)
    refine (HPG.out _).mono ?_
    rintro e w4 ⟨rfl, hw⟩
    replace hw := hw.symm
    subst hw
    go_wp2_with (fail)
    go_loopg [9] n (fun k _ wr => ∃ (v' : Value) (st' : St) (f' : Fl), SAt wr sb lb pb fb bb cb mb kb n v' st' f' ∧ Fresh w3 v v' ∧ Kept (StT sb lb fb bb cb mb kb v) w3 wr ∧ CsOK n f' st'.D ∧ st'.D + k ≤ st.D + n ∧ (∀ j, valM st'.M j = valM st.M j) ∧ (st'.init.length + 3 ≤ n ∨ ∃ m U, CleanPre n st' m U ∧ m + k = n ∧ m ≤ n - 4))
    case atStart =>
      obtain ⟨h, hg, hD, hv, hvq, hb, hq2, hsum⟩ := HB.out
      refine ⟨v, st, f, h.same K3.out, Fresh.refl _ _, Kept.refl _ _, hg.cs, Nat.le_refl _, fun _ => rfl, ?_⟩
      have := hg.free
      by_cases h3 : st.init.length + 3 ≤ n
      · exact .inl h3
      · exact .inr ⟨0, 0, ⟨h.inv, hg.eight, by omega, ⟨by omega, by omega, fun _ => rfl, fun hh => by omega⟩, hg.quota⟩, by omega, by omega⟩
    case round =>
      obtain ⟨v', st', f', hs, hfr, kr, hcs, hDk, hval, hcase⟩ := hrel
      obtain ⟨C', hc', _⟩ := hs.core
      obtain ⟨t0, t1, t2, t3, t4, t5⟩ := hc'.cells
      have HRM := Lib.hid (fun W (k : Kept [] wr W) => sroom_any W sb lb pb fb bb cb mb kb n v' st' f' (hs.same k))
      have HFR := Lib.hid (fun W (k : Kept [] wr W) => sfree_any W sb lb pb fb bb cb mb kb n v' st' f' (hs.same k))
      have HCE := Lib.hid (fun W (k : Kept [] wr W) => (hc'.same k).cells)
      have hul := (hs.inv.recs st'.last (by simp [St.segs])).1
      obtain ⟨rm, hrm⟩ : ∃ rm, 7 - usedS st'.last = rm := ⟨_, rfl⟩
      rw [hrm] at HRM
      obtain ⟨il, hil⟩ : ∃ il, st'.init.length = il := ⟨_, rfl⟩
      rw [hil] at HFR hcase
      have hrmI : (rm : Int) ≤ 7 := by omega
      have hfew := hs.inv.few
      rw [hil] at hfew
      have hnb := hs.bound.1
      have hnI : (n : Int) ≤ 256 := by omega
      have hilI : (il : Int) + 1 ≤ n := by omega
      have HX := Lib.hid (And.intro hs (And.intro hfr (And.intro kr (And.intro hcs (And.intro hDk (And.intro hval (And.intro hcase (And.intro hrm (And.intro hil hul)))))))))
      clear hs hfr kr hcs hDk hval hcase hc' hrm hil hul hfew hnb
      go_wp2_with (fail)
      refine (HRM.out wr (Kept.refl _ _)).mono ?_
      rintro e w5 ⟨rfl, k5⟩
      obtain ⟨p0, p1, p2, p3, p4, p5⟩ := HCE.out w5 k5
      have K5 := Lib.hid k5
      clear k5 t0 t1 t2 t3 t4 t5
      have HAPX : Hid (∀ W, Kept [] wr W → (¬ fitsS st' l → il + 3 ≤ n) → Calls Tryz.prog 46 #[Ptr sb, cv, I 1] W fun e w' => e = .returned (I 0) ∧ PutPost sb lb pb fb bb cb mb kb n v w st l (.returned (I 0)) w') := Lib.hid (by
        intro W kW hfr3
        obtain ⟨hs, hfr, kr, hcs, hDk, hval, hcase, hrm, hil, hul⟩ := HX.out
        obtain ⟨h, hg, hD, hv, hvq, hb, hq2, hsum⟩ := HB.out
        have hvq := hvq (fun h0 => by have := HOT.out; rw [h0] at this; simp [othF] at this)
        have kall : Kept (StT sb lb fb bb cb mb kb v) w W := (StT.sub0 K3.out).trans' (kr.trans' (StT.sub0 kW))
        have hws : sumA wO st'.M ≤ 100000 := by rw [weight_same hs.inv.sorted h.inv.sorted hval]; exact hsum
        have hAP := oappend_any W sb lb pb fb bb cb mb kb n v' st' f' (hs.same kW) l cv (hv.kept kall (fun q hq => (hvq q hq).2)) (fun q hq => by
          have hq1 := hvq q hq
          refine ⟨Nat.lt_of_lt_of_le hq1.1 kall.size, fun hm => ?_⟩
          rcases stT_fresh hfr q hm with h1 | h1
          · exact hq1.2 h1
          · have := K3.out.size; omega) HFO.out.1 (by have := HFO.out.2.1; omega) 1 (by omega) (fun hnf => by have := hfr3 hnf; omega) (by have := hs.inv.few; unfold St.num; omega) hws
        refine hAP.mono ?_
        rintro e w' ⟨rfl, v2, st2, f2, hfr2, hs2, k2, rfl, hcs2⟩
        refine ⟨rfl, by rw [HMV.out], v2, appS st' l, f2, fresh_trans (fresh_mono hfr K3.out.size) hfr2 kall.size, hs2, kall.trans k2 (fun x hx => by
          rcases stT_fresh hfr x hx with h1 | h1
          · exact .inl h1
          · exact .inr (Nat.le_trans K3.out.size h1)), ?_, ?_, ?_⟩
        · refine ⟨hg.eight, ?_, ?_, ?_⟩
          · by_cases hf : fitsS st' l
            · rw [appS_fit hf]
              show st'.init.length + 2 ≤ n
              rcases hcase with hc3 | ⟨m, U, hcp, _⟩
              · omega
              · have := hcp.free; omega
            · rw [appS_new hf]
              have := hfr3 hf
              simp; omega
          · rw [appS_M]; exact (put_done h.inv hs.inv hval HMV.out).1
          · rw [appS_D]
            obtain ⟨q1, q2, q3⟩ := hcs
            exact ⟨by rw [hcs2]; exact q1, by rw [hcs2]; exact q2, by rw [hcs2]; exact q3⟩
        · rw [appS_D]; omega
        · intro k
          rw [if_pos HMV.out, appS_M]
          exact (put_done h.inv hs.inv hval HMV.out).2 k)
      by_cases hfit : pg ≤ rm
      · have hlt : ¬ (rm : Int) < pg := by omega
        have hltb : decide ((rm : Int) < pg) = false := decide_eq_false hlt
        have HAP := Lib.hid (HAPX.out w5 K5.out (fun hnf => absurd (show usedS st'.last + pgs l ≤ 7 by
          have h1 : pgs l = pg := HPE.out
          have := HX.out.2.2.2.2.2.2.2.1
          have := HX.out.2.2.2.2.2.2.2.2.2
          omega) hnf))
        clear HAPX hfit p0 p1 p2 p3 p4 p5
        go_wp2_with (fail)
        refine HAP.out.mono ?_
        rintro e w6 ⟨rfl, hP⟩
        have HP := Lib.hid hP
        clear hP
        go_wp2_with (fail)
        go_ret
        exact HP.out
      · have hlt : (rm : Int) < pg := by omega
        have hltb : decide ((rm : Int) < pg) = true := decide_eq_true hlt
        go_wp2_with (fail)
        refine (HFR.out w5 K5.out).mono ?_
        rintro e w6 ⟨rfl, k6⟩
        have K6 := Lib.hid (K5.out.trans' k6)
        clear k6 p0 p1 p2 p3 p4 p5
        by_cases hfree : il + 3 ≤ n
        · have HAP := Lib.hid (HAPX.out w6 K6.out (fun _ => hfree))
          have hfr2 : ¬ (n : Int) - (il + 1) < 2 := by omega
          have hfr2b : decide ((n : Int) - ((il : Int) + 1) < 2) = false := decide_eq_false hfr2
          clear HAPX hfit hfree
          go_wp2_with (fail)
          refine HAP.out.mono ?_
          rintro e w7 ⟨rfl, hP⟩
          have HP := Lib.hid hP
          clear hP
          go_wp2_with (fail)
          go_ret
          exact HP.out
        · obtain ⟨m, U, hcp, hmk, hm4⟩ := HX.out.2.2.2.2.2.2.1.resolve_left hfree
          have hCL := Lib.hid (cleans_any w6 sb lb pb fb bb cb mb kb n v' st' f' (HX.out.1.same K6.out) m U hcp (by
            have := HX.out.2.2.2.2.1
            have := HB.out.2.2.1
            have := hcp.free
            have := HB.out.2.2.2.2.2.1
            unfold St.num
            omega))
          have h8 := hcp.eight
          have hfr2 : (n : Int) - (il + 1) < 2 := by have := hcp.free; have := HX.out.2.2.2.2.2.2.2.2.1; omega
          have hfr2b : decide ((n : Int) - ((il : Int) + 1) < 2) = true := decide_eq_true hfr2
          have HCP := Lib.hid (And.intro hcp (And.intro hmk hm4))
          clear hcp hmk hm4 hfree
          go_wp2_with (fail)
          refine hCL.out.mono ?_
          rintro e w7 ⟨rfl, v2, st2, f2, hfr7, hs7, k7, rfl, hcs7⟩
          have H7 := Lib.hid (And.intro hfr7 (And.intro hs7 (And.intro k7 hcs7)))
          clear hfr7 hs7 k7 hcs7
          go_wp2_with (fail)
          go_roundg (gk - 1)
          case rel =>
            obtain ⟨hs, hfr, kr, hcs, hDk, hval, hcase, hrm, hil, hul⟩ := HX.out
            obtain ⟨hfr7, hs7, k7, hcs7⟩ := H7.out
            obtain ⟨hcp, hmk, hm4⟩ := HCP.out
            obtain ⟨rs0, t, ht⟩ : ∃ rs0 t, st'.init = rs0 :: t := by
              cases hi : st'.init with
              | nil => have := hcp.free; rw [hi] at this; simp at this; omega
              | cons a b => exact ⟨a, b, rfl⟩
            obtain ⟨a1, a2, a3, a4, a5⟩ := clean_all hcp ht
            have kr6 := kr.trans' (StT.sub0 K6.out)
            refine ⟨v2, cleanS st', f2, hs7, fresh_trans hfr hfr7 kr6.size, kr6.trans k7 (stT_fresh hfr), ?_, by omega, fun j => (a4 j).trans (hval j), ?_⟩
            · rw [a2]
              exact cs_step hcs (by omega) (by have := HB.out.2.2.1; have := HB.out.2.2.2.2.2.1; omega) hcs7
            · rcases a5 with a5 | ⟨U', a5, a6⟩
              · exact .inl a5
              · exact .inr ⟨m + 1, U', a5, by omega, a6⟩
          case measure =>
            obtain ⟨hcp, hmk, hm4⟩ := HCP.out
            omega
end Go.Proofs.YtdkjlaldhohbmaaGreat
