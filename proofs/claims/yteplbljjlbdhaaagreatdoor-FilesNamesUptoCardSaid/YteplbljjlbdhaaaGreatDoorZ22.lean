/- Walks and lemmas on the program of this seat, used by its statements; each theorem bears its own conditions. -/
import Derived.Test.YteplbljjlbdhaaaGreatDoorZ21
namespace Go.Proofs.YteplbljjlbdhaaaGreatDoor
open Go.RowKit
set_option linter.unusedVariables false
set_option linter.unusedSimpArgs false
set_option linter.unusedSectionVars false
set_option maxHeartbeats 16000000
set_option maxRecDepth 100000
theorem CrP.vals {n : Nat} {f : Fl} {V W : OM} {d d' : Nat} (h : CrP n f V d) (hv : ∀ k, valM V k = valM W k) (hd : d ≤ d') : CrP n f W d' := by
 obtain ⟨st, h1, h2, h3, h4, h5⟩ := h
 exact ⟨st, h1, h2, h3, fun k => (h4 k).trans (hv k), by omega⟩
structure GoodK (n : Nat) (st : KS) : Prop where
 eight : 8 ≤ n
 free : st.init.length + 2 ≤ n
 quota : sumA wO st.M ≤ quotaF n
def PutPostK (sb lb pb fb bb cb mb kb n : Nat) (v : Value) (w : World) (st : KS) (l : List Ch) (f : Fl) (e : Ending) (w' : World) : Prop :=
 ∃ r : Int, e = .returned (I r) ∧ ((r = mayF n st.M l ∧ ∃ v' st' f', Fresh w v v' ∧ SAtK w' sb lb pb fb bb cb mb kb n v' st' f' ∧ Kept (StT sb lb fb bb cb mb kb v) w w' ∧ GoodK n st' ∧ st'.D ≤ st.D + n ∧ StepOK f f' ∧ ∀ k, valM st'.M k = if mayF n st.M l = 0 then valM (takesF st.M l 0 0) k else valM st.M k) ∨
  (r = 2 ∧ mayF n st.M l = 0 ∧ ∃ g, StepDead f g ∧ (CrP n g st.M (st.D + n + 1) ∨ CrP n g (takesF st.M l 0 0) (st.D + n + 1)) ∧ FlAt w' fb bb cb g ∧ Kept (StT sb lb fb bb cb mb kb v) w w'))
theorem may_arm (w : World) (sb lb pb fb bb cb mb kb n : Nat) (v : Value) (st : KS) (f : Fl) (h : SAtK w sb lb pb fb bb cb mb kb n v st f) (hn : 8 ≤ n) (hsum : sumA wO st.M ≤ 100000) (l : List Ch) (cv : Value) (hv : ChsAt w cv l) (hl : l.length ≤ 4611686018427387904) :
  Calls Tryz.prog 111 #[Ptr sb, cv] w fun e w' => e = .returned (I (mayF n st.M l)) ∧ Kept [] w w' := by
 obtain ⟨C, hc, hct⟩ := h.core
 have HPD := Lib.hid (pdead_any w pb fb bb cb 1 n f h.lg.pt)
 rw [h.live.1] at HPD
 have HFM := Lib.hid (form_any l cv w hv hl)
 have HQU := Lib.hid (fun W (k : Kept [] w W) => oquota_any W sb pb lb mb kb fb bb cb n _ st.M C (hc.same k) f (h.lg.pt.same k) hn)
 have HBE : Hid (formF l = 0 → (recF l).length ≤ 400 → ∀ W, Kept [] w W → Calls Tryz.prog 113 #[Ptr sb, cv] W fun e w' => e = .returned (.tuple #[I (becW st.M l (sumA wO st.M)), .bool (othF st.M l)]) ∧ Kept [] W w') := Lib.hid (by
  intro hf hr W k
  have hl2 : l.length ≤ 1000 := by
   have : ∀ l : List Ch, l.length ≤ (recF l).length := fun l => by
    induction l with
    | nil => simp
    | cons c l ih =>
     rw [recF_cons, List.length_append, List.length_cons]
     have := chB_len c
     split at this <;> omega
   have := this l
   omega
  have hk := (formF_ok hf hr).2.1
  exact becomes_any W sb pb lb mb kb _ st.M C (hc.same k) l cv (hv.same k) hl2 (fun c hc => ⟨(hk c hc).1, (hk c hc).2.1, (hk c hc).2.2.1⟩) (vals_of h.inv.inv) ⟨by omega, by omega⟩)
 have HOK : Hid (formF l = 0 → ∀ c ∈ l, c.val.length ≤ 256) := Lib.hid (fun hf c hcm => ((formG_ok 0 l hf).2 c hcm).2.2.2.1)
 obtain ⟨c0, c1, c2, c3, c4, c5⟩ := hc.cells
 obtain ⟨p, cp, b, o, rfl, hp, hcc⟩ := hv
 have HC := Lib.hid (And.intro hcc hp)
 have hlI : (l.length : Int) ≤ 4611686018427387904 := by omega
 obtain ⟨bw, hbw⟩ : ∃ bw, becW st.M l (sumA wO st.M) = bw := ⟨_, rfl⟩
 rw [hbw] at HBE
 obtain ⟨fo, hfo⟩ : ∃ fo, formF l = fo := ⟨_, rfl⟩
 have HM : Hid (mayF n st.M l = if fo ≠ 0 then fo else if 400 < (recF l).length then 151 else if (quotaF n : Int) < bw then 152 else 0) := Lib.hid (by unfold mayF; rw [hfo, hbw])
 rw [hfo] at HFM HBE HOK
 have hqn : (quotaF n : Int) ≤ 2000 := by unfold quotaF; have := h.bound.1; omega
 obtain ⟨Q, hQ⟩ : ∃ Q, quotaF n = Q := ⟨_, rfl⟩
 rw [hQ] at HM HQU hqn
 clear h hc hct hcc hp hbw hfo hQ hsum hn
 go_enter Tryz.func111, Tryz.ntmps111
 go_wp2_with (fail)
 refine HPD.out.mono ?_
 rintro e w1 ⟨rfl, hw⟩
 replace hw := hw.symm
 subst hw
 go_wp2_with (fail)
 refine HFM.out.mono ?_
 rintro e w1 ⟨rfl, k1⟩
 have K1 := Lib.hid k1
 clear k1 c0 c1 c2 c3 c4 c5
 by_cases hz : fo = 0
 case neg =>
  have hzb : (fo != 0) = true := by simpa using hz
  have hzb2 : (fo == 0) = false := by simpa using hz
  have HE := Lib.hid hz
  clear hz
  go_wp2_with (fail)
  go_ret
  exact ⟨by rw [HM.out, if_pos HE.out]; rfl, K1.out⟩
 subst hz
 have HM2 : Hid (mayF n st.M l = if 400 < (recF l).length then 151 else if (Q : Int) < bw then 152 else 0) := Lib.hid (by rw [HM.out, if_neg (by simp)])
 have hval := HOK.out (by first | rfl | trivial)
 have HVL := Lib.hid hval
 clear HM HOK hval
 go_wp2_with (fail)
 go_loopw [6, 29] (fun vn vi wr => ∃ (j N : Nat), j ≤ l.length ∧ vi = I j ∧ vn = I N ∧ N = (recF (l.take j)).length ∧ N ≤ 400 ∧ Kept [] w wr) (fun _ vi _ => l.length - (intOf vi).toNat)
 case atStart => exact ⟨0, 0, by omega, rfl, rfl, rfl, by omega, K1.out⟩
 case round =>
  obtain ⟨j, N, hj, rfl, rfl, hN, hN4, kr⟩ := hrel
  by_cases hlt : j < l.length
  ·obtain ⟨hcc, hp⟩ := HC.out
   have hpe := hp (by intro h; subst h; simp at hlt)
   subst hpe
   have hltI : (j : Int) < l.length := by omega
   obtain ⟨d0, d1, d2⟩ := hcc j hlt
   have e0 := kr.cellOf d0
   have e1 := kr.cellOf d1
   have e2 := kr.cellOf d2
   have hv3 := HVL.out l[j] (List.getElem_mem hlt)
   obtain ⟨⟨ky, vl, dr⟩, hx⟩ : ∃ x, l[j] = x := ⟨_, rfl⟩
   have hnx : (recF (l.take (j + 1))).length = N + (if dr then 5 else 7 + vl.length) := by
    rw [List.take_add_one, List.getElem?_eq_getElem hlt, hx]
    show (recF (l.take j ++ [⟨ky, vl, dr⟩])).length = _
    rw [recF_snoc, List.length_append, chB_len, hN]
   rw [hx] at e0 e1 e2 hv3
   simp only at e0 e1 e2 hv3
   have hvI : (vl.length : Int) ≤ 256 := by omega
   have hNI : (N : Int) ≤ 400 := by omega
   have hle := recF_take_le l (j + 1)
   have HR := Lib.hid (And.intro hnx (And.intro (kr.alloc (Obj.cells #[I ky, S vl, .bool dr] 146)) hle))
   clear hnx kr hcc hp d0 d1 d2 hx hN hle
   cases dr with
   | true =>
    by_cases hbig : 400 < N + 5
    ·have hbI : (400 : Int) < (N : Int) + 5 := by omega
     have HE : Hid (mayF n st.M l = 151) := Lib.hid (by
      rw [HM2.out, if_pos (by have h1 := HR.out.1; have h2 := HR.out.2.2; simp only [if_true] at h1; omega)])
     go_wp2_with (fail)
     go_ret
     exact ⟨by (rw [HE.out]; first | done | rfl), HR.out.2.1⟩
    ·have hbI : ¬ (400 : Int) < (N : Int) + 5 := by omega
     have hbb : decide ((400 : Int) < (N : Int) + 5) = false := decide_eq_false hbI
     go_wp2_with (fail)
     go_roundw
     case rel => exact ⟨j + 1, N + 5, by omega, by go_num, by go_num, HR.out.1.symm, by omega, HR.out.2.1⟩
     case measure => simp [intOf]; omega
   | false =>
    obtain ⟨V, hV⟩ : ∃ V, vl.length = V := ⟨_, rfl⟩
    by_cases hbig : 400 < N + (7 + vl.length)
    ·have hbI : (400 : Int) < (N : Int) + 5 + (2 + vl.length) := by omega
     have HE : Hid (mayF n st.M l = 151) := Lib.hid (by
      rw [HM2.out, if_pos (by have h1 := HR.out.1; have h2 := HR.out.2.2; simp only [Bool.false_eq_true, if_false] at h1; omega)])
     clear hV
     go_wp2_with (fail)
     go_ret
     exact ⟨by (rw [HE.out]; first | done | rfl), HR.out.2.1⟩
    ·have hbI : ¬ (400 : Int) < (N : Int) + 5 + (2 + vl.length) := by omega
     have hbb : decide ((400 : Int) < (N : Int) + 5 + (2 + vl.length)) = false := decide_eq_false hbI
     clear hV
     go_wp2_with (fail)
     go_roundw
     case rel => exact ⟨j + 1, N + (7 + vl.length), by omega, by go_num, by go_num, HR.out.1.symm, by omega, HR.out.2.1⟩
     case measure => simp [intOf]; omega
  ·have hje : j = l.length := by omega
   subst hje
   rw [List.take_length] at hN
   have HM3 : Hid (mayF n st.M l = if (Q : Int) < bw then 152 else 0) := Lib.hid (by rw [HM2.out, if_neg (by omega)])
   have HBW := Lib.hid (HBE.out (by first | rfl | trivial) (by omega) wr kr)
   have KR := Lib.hid kr
   clear hN kr HC
   go_wp2_with (fail)
   refine HBW.out.mono ?_
   rintro e w5 ⟨rfl, k5⟩
   have K5 := Lib.hid (KR.out.trans' k5)
   clear k5
   go_wp2_with (fail)
   refine (HQU.out _ K5.out).mono ?_
   rintro e w6 ⟨rfl, rfl⟩
   by_cases hq : (Q : Int) < bw
   ·have HE : Hid (mayF n st.M l = 152) := Lib.hid (by rw [HM3.out, if_pos hq])
    go_wp2_with (fail)
    go_ret
    exact ⟨by (rw [HE.out]; first | done | rfl), K5.out⟩
   ·have hqb : decide ((Q : Int) < bw) = false := decide_eq_false hq
    have HE : Hid (mayF n st.M l = 0) := Lib.hid (by rw [HM3.out, if_neg hq])
    go_wp2_with (fail)
    go_ret
    exact ⟨by (rw [HE.out]; first | done | rfl), K5.out⟩
theorem sroom_arm (w : World) (sb lb pb fb bb cb mb kb n : Nat) (v : Value) (st : KS) (f : Fl) (h : SAtK w sb lb pb fb bb cb mb kb n v st f) : Calls Tryz.prog 116 #[Ptr lb] w fun e w' => e = .returned (I (7 - st.lu : Nat)) ∧ Kept [] w w' := by
 have hinv := h.inv.inv
 have hfew := hinv.few
 have hb := h.bound.1
 have hlg := h.lg
 have hseg0 : sgs n st.D st.segs = sgs n st.D st.init ++ [((st.D + st.init.length) % n, st.num)] := by
  unfold St.segs; rw [sgs_snoc]; rfl
 rw [hseg0] at hlg
 have := room_any w lb pb fb bb cb 1 n v _ _ _ f false hlg (by rw [sgs_len]; omega) h.live.1 (Nat.mod_lt _ (by omega))
 rw [(flX_last h.fl (by omega)).room] at this
 exact this
theorem sfree_arm (w : World) (sb lb pb fb bb cb mb kb n : Nat) (v : Value) (st : KS) (f : Fl) (h : SAtK w sb lb pb fb bb cb mb kb n v st f) : Calls Tryz.prog 117 #[Ptr lb] w fun e w' => e = .returned (I ((n : Int) - (st.init.length + 1 : Nat))) ∧ Kept [] w w' := by
 have hfew := h.inv.inv.few
 have hb := h.bound.1
 have hl : (sgs n st.D st.segs).length = st.init.length + 1 := by rw [sgs_len, segs_len]
 have := free_any w lb pb fb bb cb 1 n v _ f false h.lg (by rw [hl]; omega)
 rw [hl] at this
 exact this
theorem oput_arm (w : World) (sb lb pb fb bb cb mb kb n : Nat) (v : Value) (st : KS) (f : Fl) (h : SAtK w sb lb pb fb bb cb mb kb n v st f) (hg : GoodK n st) (hD : st.D ≤ 800000000) (l : List Ch) (cv : Value) (hv : ChsAt w cv l) (hvq : l ≠ [] → ∀ q, cv.ownBlock = some q → q < w.heap.size ∧ q ∉ StT sb lb fb bb cb mb kb v) (hl : l.length ≤ 4611686018427387904) :
  Calls Tryz.prog 87 #[Ptr sb, cv] w (PutPostK sb lb pb fb bb cb mb kb n v w st l f) := by
 have hb := h.bound.1
 have hq2 : quotaF n ≤ 2000 := by unfold quotaF; omega
 have hsum : sumA wO st.M ≤ 100000 := by have := hg.quota; omega
 have HMAY := Lib.hid (may_arm w sb lb pb fb bb cb mb kb n v st f h hg.eight hsum l cv hv hl)
 obtain ⟨C, hc, hct⟩ := h.core
 have HTO := Lib.hid (fun W (k : Kept [] w W) e (he : (e == 2) = false) => stold_any W sb pb lb mb kb _ st.M C (hc.same k) e he)
 have hmv := may_dead n st.M l
 have hcl := hc.cells
 have HB := Lib.hid (And.intro h (And.intro hg (And.intro hD (And.intro hv (And.intro hvq (And.intro hb (And.intro hq2 hsum)))))))
 have HCC := Lib.hid (And.intro hc hct)
 have HLT : Hid (∀ x ∈ [sb, mb, kb], x < w.heap.size) := Lib.hid (fun x hx => h.lt.1 x (List.mem_append.2 (.inl hx)))
 obtain ⟨mv, hmvE⟩ : ∃ mv, mayF n st.M l = mv := ⟨_, rfl⟩
 have HMV := Lib.hid hmvE
 rw [hmvE] at HMAY hmv
 have HTM := Lib.hid (fun W (k : Kept [] w W) => HTO.out W k mv hmv)
 clear h hg hD hv hvq hb hq2 hsum hc hct hcl hmvE hmv HTO
 go_enter Tryz.func87, Tryz.ntmps87
 go_wp2_with (fail)
 refine HMAY.out.mono ?_
 rintro e w1 ⟨rfl, k1⟩
 have K1 := Lib.hid k1
 clear k1
 by_cases hz : mv = 0
 case neg =>
  have hzb : (mv != 0) = true := by simpa using hz
  have hzb2 : (mv == 0) = false := by simpa using hz
  have HE := Lib.hid hz
  clear hz
  go_wp2_with (fail)
  refine (HTM.out w1 K1.out).mono ?_
  rintro e w2 ⟨rfl, hc2, k2⟩
  have H2 := Lib.hid (And.intro hc2 k2)
  clear hc2 k2
  go_wp2_with (fail)
  go_ret
  obtain ⟨h, hg, hD, hv, hvq, hb, hq2, hsum⟩ := HB.out
  have hlg := (h.lg.same K1.out).beside (w0 := w1) (sb := sb) (mb := mb) (kb := kb) (v := v) (H2.out.2.mono (by simp)) (Fresh.refl _ _) h.sep (fun x hx => Nat.lt_of_lt_of_le (HLT.out x hx) K1.out.size)
  refine ⟨mv, rfl, .inl ⟨HMV.out.symm, v, st, f, Fresh.refl _ _, ⟨hlg, ⟨C, H2.out.1, HCC.out.2⟩, h.fl, h.inv, h.live, h.sep⟩, (StT.sub0 K1.out).trans' (StT.subC (H2.out.2.mono (by simp))), hg, by omega, StepOK.refl h.live, fun k => ?_⟩⟩
  rw [if_neg (by rw [HMV.out]; exact HE.out)]
 subst hz
 have hm0 := HMV.out
 have hff : formF l = 0 := by
  unfold mayF at hm0
  split at hm0
  ·next h => exact absurd hm0 h
  ·next h => simpa using h
 have hrl : (recF l).length ≤ 400 := by
  have hm0 := HMV.out
  unfold mayF at hm0
  rw [if_neg (by rw [hff]; simp)] at hm0
  split at hm0
  ·cases hm0
  ·omega
 have hform := formF_ok hff hrl
 have hl2 : l.length ≤ 400 := by
  have : ∀ l : List Ch, l.length ≤ (recF l).length := fun l => by
   induction l with
   | nil => simp
   | cons c l ih =>
    rw [recF_cons, List.length_append, List.length_cons]
    have := chB_len c
    split at this <;> omega
  have := this l
  omega
 have hk3 : ∀ c ∈ l, 1 ≤ c.key ∧ c.key ≤ 2147483647 ∧ c.val.length ≤ 256 := fun c hc => ⟨(hform.2.1 c hc).1, (hform.2.1 c hc).2.1, (hform.2.1 c hc).2.2.1⟩
 have HBE := Lib.hid (becomes_any w1 sb pb lb mb kb _ st.M C (HCC.out.1.same K1.out) l cv (HB.out.2.2.2.1.same K1.out) (by omega) hk3 (vals_of HB.out.1.inv.inv) ⟨by omega, by have := HB.out.2.2.2.2.2.2.2; omega⟩)
 have HFO := Lib.hid (And.intro hform (And.intro hl2 (And.intro hk3 hm0)))
 obtain ⟨ot, hot⟩ : ∃ ot, othF st.M l = ot := ⟨_, rfl⟩
 obtain ⟨bw, hbw⟩ : ∃ bw, becW st.M l (sumA wO st.M) = bw := ⟨_, rfl⟩
 rw [hot, hbw] at HBE
 have HOT := Lib.hid hot
 clear hm0 hff hrl hform hl2 hk3 hot hbw HTM HMAY
 go_wp2_with (fail)
 refine HBE.out.mono ?_
 rintro e w2 ⟨rfl, k2⟩
 have K2 := Lib.hid (K1.out.trans' k2)
 clear k2
 cases ot with
 | false =>
  go_wp2_with (fail)
  go_ret
  obtain ⟨h, hg, hD, hv, hvq, hb, hq2, hsum⟩ := HB.out
  refine ⟨0, rfl, .inl ⟨HMV.out.symm, v, st, f, Fresh.refl _ _, h.same K2.out, StT.sub0 K2.out, hg, by omega, StepOK.refl h.live, fun k => ?_⟩⟩
  rw [if_pos HMV.out]
  exact (oth_same st.M h.inv.inv.sorted 0 0 l HFO.out.1.1 HOT.out k).symm
 | true =>
  have HRE := Lib.hid (orecord_any l cv w2 (HB.out.2.2.2.1.same K2.out) (by have := HFO.out.2.1; omega) HFO.out.2.2.1)
  have HPG := Lib.hid (fun W => pages_any (recF l).length HFO.out.1.2.2 W)
  obtain ⟨pg, hpg⟩ : ∃ pg, pagesF (recF l).length = pg := ⟨_, rfl⟩
  rw [hpg] at HPG
  have hpg7 : pg ≤ 7 ∧ 1 ≤ pg := by rw [← hpg]; exact ⟨pgs_le7 HFO.out.1, pages_pos _⟩
  have HPE := Lib.hid hpg
  have hpgI : (pg : Int) ≤ 7 := by omega
  have hrlI : ((recF l).length : Int) ≤ 400 := by have := HFO.out.1.2.2; omega
  obtain ⟨RL, hRL⟩ : ∃ RL, recF l = RL := ⟨_, rfl⟩
  rw [hRL] at HRE HPG hrlI
  clear hpg hRL
  go_wp2_with (fail)
  refine HRE.out.mono ?_
  rintro e w3 ⟨rfl, k3⟩
  have K3 := Lib.hid (K2.out.trans' k3)
  clear k3
  go_wp2_with (fail)
  refine (HPG.out _).mono ?_
  rintro e w4 ⟨rfl, hw⟩
  replace hw := hw.symm
  subst hw
  go_wp2_with (fail)
  go_loopg [9] n (fun k _ wr => ∃ (v' : Value) (st' : KS) (f' : Fl), SAtK wr sb lb pb fb bb cb mb kb n v' st' f' ∧ Fresh w3 v v' ∧ Kept (StT sb lb fb bb cb mb kb v) w3 wr ∧ StepOK f f' ∧ st'.D + k ≤ st.D + n ∧ (∀ j, valM st'.M j = valM st.M j) ∧ (st'.init.length + 3 ≤ n ∨ ∃ m U, CleanPreK n st' m U ∧ m + k = n ∧ m ≤ n - 4))
  case atStart =>
   obtain ⟨h, hg, hD, hv, hvq, hb, hq2, hsum⟩ := HB.out
   refine ⟨v, st, f, h.same K3.out, Fresh.refl _ _, Kept.refl _ _, StepOK.refl h.live, Nat.le_refl _, fun _ => rfl, ?_⟩
   have := hg.free
   by_cases h3 : st.init.length + 3 ≤ n
   ·exact .inl h3
   ·exact .inr ⟨0, 0, ⟨h.inv, hg.eight, by omega, ⟨by omega, by omega, fun _ => rfl, fun hh => by omega⟩, hg.quota⟩, by omega, by omega⟩
  case round =>
   obtain ⟨v', st', f', hs, hfr, kr, hcs, hDk, hval, hcase⟩ := hrel
   obtain ⟨C', hc', _⟩ := hs.core
   obtain ⟨t0, t1, t2, t3, t4, t5⟩ := hc'.cells
   have HRM := Lib.hid (fun W (k : Kept [] wr W) => sroom_arm W sb lb pb fb bb cb mb kb n v' st' f' (hs.same k))
   have HFR := Lib.hid (fun W (k : Kept [] wr W) => sfree_arm W sb lb pb fb bb cb mb kb n v' st' f' (hs.same k))
   have HCE := Lib.hid (fun W (k : Kept [] wr W) => (hc'.same k).cells)
   have hul := hs.inv.seven
   obtain ⟨rm, hrm⟩ : ∃ rm, 7 - st'.lu = rm := ⟨_, rfl⟩
   rw [hrm] at HRM
   obtain ⟨il, hil⟩ : ∃ il, st'.init.length = il := ⟨_, rfl⟩
   rw [hil] at HFR hcase
   have hrmI : (rm : Int) ≤ 7 := by omega
   have hfew := hs.inv.inv.few
   rw [hil] at hfew
   have hnb := hs.bound.1
   have hnI : (n : Int) ≤ 256 := by omega
   have hilI : (il : Int) + 1 ≤ n := by omega
   have HX := Lib.hid (And.intro hs (And.intro hfr (And.intro kr (And.intro hcs (And.intro hDk (And.intro hval (And.intro hcase (And.intro hrm (And.intro hil hul)))))))))
   clear hs hfr kr hcs hDk hval hcase hc' hrm hil hul hfew hnb
   go_wp2_with (fail)
   refine (HRM.out wr (Kept.refl _ _)).mono ?_
   rintro e w5 ⟨rfl, k5⟩
   obtain ⟨p0, p1, p2, p3, p4, p5⟩ := HCE.out w5 k5
   have K5 := Lib.hid k5
   clear k5 t0 t1 t2 t3 t4 t5
   have HAPX : Hid (∀ W, Kept [] wr W → (¬ fitsK st' l → il + 3 ≤ n) → Calls Tryz.prog 119 #[Ptr sb, cv, I 1] W fun e w' => ∃ r : Int, e = .returned (I r) ∧ PutPostK sb lb pb fb bb cb mb kb n v w st l f (.returned (I r)) w') := Lib.hid (by
    intro W kW hfr3
    obtain ⟨hs, hfr, kr, hcs, hDk, hval, hcase, hrm, hil, hul⟩ := HX.out
    obtain ⟨h, hg, hD, hv, hvq, hb, hq2, hsum⟩ := HB.out
    have hvq := hvq (fun h0 => by have := HOT.out; rw [h0] at this; simp [othF] at this)
    have kall : Kept (StT sb lb fb bb cb mb kb v) w W := (StT.sub0 K3.out).trans' (kr.trans' (StT.sub0 kW))
    have hws : sumA wO st'.M ≤ 100000 := by rw [weight_same hs.inv.inv.sorted h.inv.inv.sorted hval]; exact hsum
    have hAP := oappend_arm W sb lb pb fb bb cb mb kb n v' st' f' (hs.same kW) l cv (hv.kept kall (fun q hq => (hvq q hq).2)) (fun q hq => by
     have hq1 := hvq q hq
     refine ⟨Nat.lt_of_lt_of_le hq1.1 kall.size, fun hm => ?_⟩
     rcases stT_fresh hfr q hm with h1 | h1
     ·exact hq1.2 h1
     ·have := K3.out.size; omega) HFO.out.1 (by have := HFO.out.2.1; omega) 1 (by omega) (fun hnf => by have := hfr3 hnf; omega) (by have := hs.inv.inv.few; unfold St.num; omega) hws
    refine hAP.mono ?_
    have hdn : sumA wO (appK st' l).M ≤ quotaF n ∧ ∀ k, valM (appK st' l).M k = valM (takesF st.M l 0 0) k := by
     rw [appK_M]
     exact put_done h.inv.inv hs.inv.inv hval HMV.out
    have hfree2 : st'.init.length + 2 ≤ n := by
     rcases hcase with hc3 | ⟨m, U, hcp, _⟩
     ·omega
     ·have := hcp.free; omega
    have hkt := kall
    rintro e w' ⟨r2, rfl, hp2⟩
    refine ⟨r2, rfl, r2, rfl, ?_⟩
    rcases hp2 with ⟨rfl, v2, f2, hfr2, hs2, hst2, k2⟩ | ⟨rfl, g2, hsd2, had2, hfl2, k2⟩
    ·refine .inl ⟨HMV.out.symm, v2, appK st' l, f2, fresh_trans (fresh_mono hfr K3.out.size) hfr2 kall.size, hs2, kall.trans k2 (fun x hx => by
      rcases stT_fresh hfr x hx with h1 | h1
      ·exact .inl h1
      ·exact .inr (Nat.le_trans K3.out.size h1)), ⟨hg.eight, ?_, hdn.1⟩, by rw [appK_D]; omega, hcs.trans hst2, fun k => by rw [if_pos HMV.out]; exact hdn.2 k⟩
     by_cases hf : fitsK st' l
     ·rw [appK_fit hf]; exact hfree2
     ·rw [appK_new hf]
      have := hfr3 hf
      show (st'.init ++ [st'.last]).length + 2 ≤ n
      simp; omega
    ·refine .inr ⟨rfl, HMV.out, g2, hcs.dead hsd2, ?_, hfl2, kall.trans k2 (fun x hx => by
      rcases stT_fresh hfr x hx with h1 | h1
      ·exact .inl h1
      ·exact .inr (Nat.le_trans K3.out.size h1))⟩
     exact appDead_put had2 (fun hnf => by have := hfr3 hnf; omega) hfree2 hval hdn.2 (by omega))
   by_cases hfit : pg ≤ rm
   ·have hlt : ¬ (rm : Int) < pg := by omega
    have hltb : decide ((rm : Int) < pg) = false := decide_eq_false hlt
    have HAP := Lib.hid (HAPX.out w5 K5.out (fun hnf => absurd (show st'.lu + pgs l ≤ 7 by
     have h1 : pgs l = pg := HPE.out
     have := HX.out.2.2.2.2.2.2.2.1
     have := HX.out.2.2.2.2.2.2.2.2.2
     omega) hnf))
    clear HAPX hfit p0 p1 p2 p3 p4 p5
    go_wp2_with (fail)
    refine HAP.out.mono ?_
    rintro e w6 ⟨r6, rfl, hP⟩
    have HP := Lib.hid hP
    clear hP
    go_wp2_with (fail)
    go_ret
    exact HP.out
   ·have hlt : (rm : Int) < pg := by omega
    have hltb : decide ((rm : Int) < pg) = true := decide_eq_true hlt
    go_wp2_with (fail)
    refine (HFR.out w5 K5.out).mono ?_
    rintro e w6 ⟨rfl, k6⟩
    have K6 := Lib.hid (K5.out.trans' k6)
    clear k6 p0 p1 p2 p3 p4 p5
    by_cases hfree : il + 3 ≤ n
    ·have HAP := Lib.hid (HAPX.out w6 K6.out (fun _ => hfree))
     have hfr2 : ¬ (n : Int) - (il + 1) < 2 := by omega
     have hfr2b : decide ((n : Int) - ((il : Int) + 1) < 2) = false := decide_eq_false hfr2
     clear HAPX hfit hfree
     go_wp2_with (fail)
     refine HAP.out.mono ?_
     rintro e w7 ⟨r7, rfl, hP⟩
     have HP := Lib.hid hP
     clear hP
     go_wp2_with (fail)
     go_ret
     exact HP.out
    ·obtain ⟨m, U, hcp, hmk, hm4⟩ := HX.out.2.2.2.2.2.2.1.resolve_left hfree
     have hCL := Lib.hid (cleans_arm w6 sb lb pb fb bb cb mb kb n v' st' f' (HX.out.1.same K6.out) m U hcp (by
      have := HX.out.2.2.2.2.1
      have := HB.out.2.2.1
      have := hcp.free
      have := HB.out.2.2.2.2.2.1
      unfold St.num
      omega))
     have h8 := hcp.eight
     have hfr2 : (n : Int) - (il + 1) < 2 := by have := hcp.free; have := HX.out.2.2.2.2.2.2.2.2.1; omega
     have hfr2b : decide ((n : Int) - ((il : Int) + 1) < 2) = true := decide_eq_true hfr2
     have HCP := Lib.hid (And.intro hcp (And.intro hmk hm4))
     clear hcp hmk hm4 hfree
     go_wp2_with (fail)
     refine hCL.out.mono ?_
     rintro e w7 ⟨r7, rfl, hp7⟩
     rcases hp7 with ⟨rfl, v2, f2, hfr7, hs7, hcs7, k7⟩ | ⟨rfl, g7, hsd7, hcr7, hfl7, k7⟩
     case inr =>
      have H7 := Lib.hid (And.intro hsd7 (And.intro hcr7 (And.intro hfl7 k7)))
      clear hsd7 hcr7 hfl7 k7
      go_wp2_with (fail)
      go_ret
      obtain ⟨hsd7, hcr7, hfl7, k7⟩ := H7.out
      obtain ⟨hs, hfr, kr, hcs, hDk, hval, hcase, hrm, hil, hul⟩ := HX.out
      have kr6 := kr.trans' (StT.sub0 K6.out)
      have kall := (StT.sub0 K3.out).trans' (kr6.trans k7 (stT_fresh hfr))
      exact ⟨2, rfl, .inr ⟨rfl, HMV.out, g7, hcs.dead hsd7, .inl (hcr7.vals hval (by omega)), hfl7, kall⟩⟩
     have H7 := Lib.hid (And.intro hfr7 (And.intro hs7 (And.intro k7 hcs7)))
     clear hfr7 hs7 k7 hcs7
     go_wp2_with (fail)
     go_roundg (gk - 1)
     case rel =>
      obtain ⟨hs, hfr, kr, hcs, hDk, hval, hcase, hrm, hil, hul⟩ := HX.out
      obtain ⟨hfr7, hs7, k7, hcs7⟩ := H7.out
      obtain ⟨hcp, hmk, hm4⟩ := HCP.out
      obtain ⟨rs0, t, ht⟩ : ∃ rs0 t, st'.init = rs0 :: t := by
       cases hi : st'.init with
       | nil => have := hcp.free; rw [hi] at this; simp at this; omega
       | cons a b => exact ⟨a, b, rfl⟩
      obtain ⟨a1, a2, a3, a4, a5⟩ := clean_allK hcp ht
      have kr6 := kr.trans' (StT.sub0 K6.out)
      refine ⟨v2, cleanK st', f2, hs7, fresh_trans hfr hfr7 kr6.size, kr6.trans k7 (stT_fresh hfr), hcs.trans hcs7, by omega, fun j => (a4 j).trans (hval j), ?_⟩
      rcases a5 with a5 | ⟨U', a5, a6⟩
      ·exact .inl a5
      ·exact .inr ⟨m + 1, U', a5, by omega, a6⟩
     case measure =>
      obtain ⟨hcp, hmk, hm4⟩ := HCP.out
      omega
end Go.Proofs.YteplbljjlbdhaaaGreatDoor
