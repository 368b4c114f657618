/- Walks and lemmas on the program of this seat, used by its statements; each theorem bears its own conditions. -/
import Derived.Test.YteplbljjlbdhaaaGreatDoorZ19
import Derived.Test.YteplbljjlbdhaaaGreatDoorZ13
namespace Go.Proofs.YteplbljjlbdhaaaGreatDoor
open Go.RowKit
set_option linter.unusedVariables false
set_option linter.unusedSimpArgs false
set_option linter.unusedSectionVars false
set_option maxHeartbeats 16000000
set_option maxRecDepth 100000
def LApp (lb pb fb bb cb n : Nat) (v : Value) (st : KS) (l : List Ch) (f : Fl) (w : World) (e : Ending) (w' : World) : Prop :=
 ∃ r : Int, e = .returned (I r) ∧ ((r = 0 ∧ ∃ g v', StepOK f g ∧ FlX n g (appK st l) false ∧ Fresh w v v' ∧ LgAt w' lb pb fb bb cb 1 n v' (sgs n (appK st l).D (appK st l).segs) g false ∧ Kept (LgT lb fb bb cb v) w w') ∨
  (r = 2 ∧ ∃ g, StepDead f g ∧ AppDead n st l g ∧ FlAt w' fb bb cb g ∧ Kept (LgT lb fb bb cb v) w w'))
theorem appK_segs {n : Nat} {st st' : KS} {l : List Ch} {a : List Sg} {b : Sg} (hf : fitsK st' l) (e : appK st' l = appK st l) (h : sgs n st'.D st'.segs = a ++ [b]) : sgs n (appK st l).D (appK st l).segs = a ++ [b] := by
 rw [← e, appK_fit hf, ← h]
 show sgs n st'.D (st'.init ++ [st'.last ++ [l]]) = sgs n st'.D (st'.init ++ [st'.last])
 rw [sgs_snoc, sgs_snoc]
theorem lapp_arm (w : World) (lb pb fb bb cb n : Nat) (v : Value) (st : KS) (f : Fl) (h : LgAt w lb pb fb bb cb 1 n v (sgs n st.D st.segs) f false) (hF : FlX n f st false) (hI : InvK n st) (ha : ArmOK f) (l : List Ch) (hl : FormC l) (spare : Nat) (hsp : spare ≤ 1000)
    (hroom : ¬ fitsK st l → spare + (st.init.length + 1) < n) (hnum : st.num ≤ 1000000000) :
    Calls Tryz.prog 150 #[Ptr lb, S (recF l), I spare] w (LApp lb pb fb bb cb n v st l f w) := by
  have hb := h.pt.bound
  have hfew := hI.inv.few
  have hn : st.init.length < n := by omega
  have hlen : 512 * (1 + n) ≤ f.bs.length := by omega
  have hbb : (st.D + st.init.length) % n < n := Nat.mod_lt _ (by omega)
  have hsg : sgs n st.D st.segs = sgs n st.D st.init ++ [((st.D + st.init.length) % n, st.num)] := by unfold St.segs; rw [sgs_snoc]; rfl
  have hrm := (flX_last hF hn).room
  have e6 : (256 : Nat) ^ 6 = 281474976710656 := by decide
  have hms : ((st.D + st.init.length) % n + 1) % n = (st.D + (st.init.length + 1)) % n := mod_succ
  rw [hsg] at h
  have hcase : pagesF (recF l).length ≤ roomF (blockOf f.bs (1 + (st.D + st.init.length) % n)) 7 ∨
      (roomF (blockOf f.bs (1 + (st.D + st.init.length) % n)) 7 < pagesF (recF l).length ∧ spare + ((sgs n st.D st.init).length + 1) < n ∧ JunkB (blockOf f.bs (1 + ((st.D + st.init.length) % n + 1) % n)) ∧ st.num + 1 < 256 ^ 6) := by
    rw [hrm, hms, sgs_len]
    by_cases hf : fitsK st l
    · left; have : st.lu + pgs l ≤ 7 := hf; unfold pgs at this; omega
    · right
      have hr := hroom hf
      have h7 := hI.seven
      have : ¬ (st.lu + pgs l ≤ 7) := hf
      unfold pgs at this
      exact ⟨by omega, hr, flX_free hF (by omega) (by omega), by omega⟩
  refine (append_arm w lb pb fb bb cb 1 n v (sgs n st.D st.init) ((st.D + st.init.length) % n) st.num f h (by rw [sgs_len]; omega) ha hbb (recF l) hl.2.2 spare hsp hcase).mono ?_
  intro e w' hp
  have hroom2 : ¬ fitsK st l → st.init.length + 2 ≤ n := fun hf => by have := hroom hf; omega
  rcases hp with ⟨init', b', num', f', rm, A, hca, hrm', hA, harm, rfl, v', hfr, hlg, hk⟩ | ⟨g, h0, hsd, hbk, hoth, rfl, hlg, hk⟩ | ⟨init', b', num', f', rm, A, g, hca, hrm', hA, htorn, rfl, v', hfr, hlg, hk⟩
  · obtain ⟨st', q1, q2, q3, q4, q5, q6, q7, q8, q9, q10, q11, q12⟩ := caseA_st hF hI hl hroom2 hn hlen ha hca
    have hlu := q1.seven
    have hAe : A = 512 * (1 + (st'.D + st'.init.length) % n) + 64 * (1 + st'.lu) := by rw [← q6]; omega
    have hfl := flX_app q2 q1 hl q3 q11 (by rw [q10.len]; exact hlen)
    rw [← hAe, q4] at hfl
    refine ⟨0, rfl, .inl ⟨rfl, _, v', q10.trans (appA_ok harm), hfl, hfr, ?_, hk⟩⟩
    rw [appK_segs q3 q4 q5]
    exact hlg
  · have hnf : ¬ fitsK st l := by rw [hrm] at h0; have := hI.seven; show ¬ (st.lu + pgs l ≤ 7); unfold pgs; omega
    have hr := hroom2 hnf
    rw [hms] at hbk hoth
    refine ⟨2, rfl, .inr ⟨rfl, g, hsd, ?_, hlg.pt.fl, hk⟩⟩
    rcases hbk with hbk | hbk
    · exact ⟨⟨newS st.toSt, 0⟩, ⟨newS_inv hI.inv hr, by show usedS [] ≤ 0; simp [usedS], by show 0 ≤ 7; omega⟩, flX_made hF (by omega) hlen hoth hbk, rfl, .inr ⟨hnf, rfl⟩, .inl rfl⟩
    · exact ⟨st, hI, flX_junk hF (by omega) (by omega) hlen hoth hbk, rfl, .inl rfl, .inl rfl⟩
  · obtain ⟨st', q1, q2, q3, q4, q5, q6, q7, q8, q9, q10, q11, q12⟩ := caseA_st hF hI hl hroom2 hn hlen ha hca
    have hlu := q1.seven
    have hAe : A = 512 * (1 + (st'.D + st'.init.length) % n) + 64 * (1 + st'.lu) := by rw [← q6]; omega
    rw [hAe] at htorn
    obtain ⟨k', p1, p2, p3, p4, p5⟩ := flX_torn q2 q1 hl q3 q11 (by rw [q10.len]; exact hlen) htorn
    rw [q4] at p5
    exact ⟨2, rfl, .inr ⟨rfl, g, q10.dead (torn_dead htorn), ⟨k', p1, p2, by rw [p3, q7], by rw [p4]; exact q8, by rw [q9] at p5; exact p5⟩, hlg.pt.fl, hk⟩⟩
theorem ct_newS {st : St} {C : List (Int × Nat)} (h : CtOK st C) : CtOK (newS st) C := by
 have hl : (newS st).segs.length = st.segs.length + 1 := by show ((st.init ++ [st.last]) ++ [[]]).length = (st.init ++ [st.last]).length + 1; simp
 refine ⟨fun j rs hj => ?_, fun k hk => h.2 k ?_⟩
 ·have hj2 : (st.segs ++ [[]])[j]? = some rs := hj
  show (findA C ((st.D + j + 1 : Nat) : Int)).getD 0 = rs.length
  by_cases hlt : j < st.segs.length
  ·rw [List.getElem?_append_left hlt] at hj2
   exact h.1 j rs hj2
  ·have hjl := (List.getElem?_eq_some_iff.1 hj).1
   rw [List.getElem?_append_right (by omega)] at hj2
   have e0 : j - st.segs.length = 0 := by omega
   rw [e0] at hj2
   have : rs = [] := by simpa using hj2.symm
   subst this
   rw [h.2 _ (.inr (by omega))]
   rfl
 ·have e : (newS st).D = st.D := rfl
  rw [hl, e] at hk
  omega
theorem ct_appK {n : Nat} {st : KS} {C : List (Int × Nat)} (hI : InvK n st) (h : CtOK st.toSt C) (hs : SortedA C) (l : List Ch) (h7 : pgs l ≤ 7) : (findA C ((putSegK st l : Nat) : Int)).getD 0 = putPosK st l ∧ CtOK (appK st l).toSt (insA (delA C ((putSegK st l : Nat) : Int)) ((putSegK st l : Nat) : Int) (putPosK st l + 1)) := by
 by_cases hf : fitsK st l
 ·have hfs : fitsS st.toSt l := by have := hI.used; unfold fitsK at hf; unfold fitsS; omega
  have h1 := ct_app h hs l
  have e1 : putSegK st l = putSeg st.toSt l := by unfold putSegK putSeg; rw [if_pos hf, if_pos hfs]
  have e2 : putPosK st l = putPos st.toSt l := by unfold putPosK putPos; rw [if_pos hf, if_pos hfs]
  rw [e1, e2, appK_fitS hf hI.used]
  exact h1
 ·have h1 := ct_app (ct_newS h) hs l
  have e1 : putSegK st l = putSeg (newS st.toSt) l := by unfold putSegK putSeg; rw [if_neg hf, if_pos (newS_fits h7), newS_num]
  have e2 : putPosK st l = putPos (newS st.toSt) l := by unfold putPosK putPos; rw [if_neg hf, if_pos (newS_fits h7)]; rfl
  rw [e1, e2, appK_newS hf h7]
  exact h1
structure SAtK (w : World) (sb lb pb fb bb cb mb kb n : Nat) (v : Value) (st : KS) (f : Fl) : Prop where
 lg : LgAt w lb pb fb bb cb 1 n v (sgs n st.D st.segs) f false
 core : ∃ C, CoreAt w sb pb lb mb kb (sumA wO st.M) st.M C ∧ CtOK st.toSt C
 fl : FlX n f st false
 inv : InvK n st
 live : ArmOK f
 sep : ∀ x, x ∈ [sb, mb, kb] → x ∉ LgT lb fb bb cb v ∧ x ≠ pb
section
variable {w : World} {sb lb pb fb bb cb mb kb n : Nat} {v : Value} {st : KS} {f : Fl}
theorem SAtK.same {w' : World} (h : SAtK w sb lb pb fb bb cb mb kb n v st f) (k : Kept [] w w') : SAtK w' sb lb pb fb bb cb mb kb n v st f := by
 obtain ⟨C, h1, h2⟩ := h.core
 exact ⟨h.lg.same k, ⟨C, h1.same k, h2⟩, h.fl, h.inv, h.live, h.sep⟩
theorem SAtK.kept {w' : World} {T : List Nat} (h : SAtK w sb lb pb fb bb cb mb kb n v st f) (k : Kept T w w') (hT : ∀ x ∈ T, x ∉ StT sb lb fb bb cb mb kb v ∧ x ≠ pb) : SAtK w' sb lb pb fb bb cb mb kb n v st f := by
 obtain ⟨C, h1, h2⟩ := h.core
 have hno : ∀ y, y ∈ StT sb lb fb bb cb mb kb v → y ∉ T := fun y hy hm => (hT y hm).1 hy
 refine ⟨h.lg.kept k (hno _ (by simp [StT, LgT])) (fun hm => (hT _ hm).2 rfl) (hno _ (by simp [StT, LgT])) (hno _ (by simp [StT, LgT])) (hno _ (by simp [StT, LgT])) (fun q hq => hno q (by simp [StT, LgT, hq])), ⟨C, h1.kept k (hno _ (by simp [StT])) (hno _ (by simp [StT])) (hno _ (by simp [StT])), h2⟩, h.fl, h.inv, h.live, h.sep⟩
theorem SAtK.bound (h : SAtK w sb lb pb fb bb cb mb kb n v st f) : 1 + n ≤ 256 ∧ 512 * (1 + n) ≤ f.bs.length := by
 have := h.lg.pt.bound
 omega
theorem SAtK.lt (h : SAtK w sb lb pb fb bb cb mb kb n v st f) : (∀ x ∈ StT sb lb fb bb cb mb kb v, x < w.heap.size) ∧ pb < w.heap.size := by
 obtain ⟨C, hc, _⟩ := h.core
 refine ⟨fun x hx => ?_, lt_of_block h.lg.pt.blk⟩
 have := h.lg.lt
 have := h.lg.n2
 have := h.lg.n3
 have := h.lg.n4
 have := hc.lt
 have := hc.ob.lt
 have := hc.ct.lt
 simp only [StT, LgT, List.mem_append, Option.mem_toList] at hx
 rcases hx with hx | hx | hx
 ·simp at hx; omega
 ·simp at hx; omega
 ·exact (own_lt h.lg.own x (by simpa using hx)).2
end
theorem stold_r (w : World) (sb pb lb mb kb : Nat) (x : Int) (M : OM) (C : List (Int × Nat)) (h : CoreAt w sb pb lb mb kb x M C) (k : Int) (hk : k = 0 ∨ k = 2) :
  Calls Tryz.prog 112 #[Ptr sb, I k] w fun e w' => e = .returned (I k) ∧ Kept [sb] w w' ∧ (k = 0 → CoreAt w' sb pb lb mb kb x M C) := by
 by_cases h0 : k = 0
 ·subst h0
  exact (stold_any w sb pb lb mb kb x M C h 0 rfl).mono fun e w' ⟨a, b, c⟩ => ⟨a, c, fun _ => b⟩
 ·have h2 : k = 2 := by omega
  subst h2
  exact (stold_gone w sb pb lb mb kb x M C h).mono fun e w' ⟨a, b, c⟩ => ⟨a, c, fun hh => absurd hh h0⟩
def OApp (sb lb pb fb bb cb mb kb n : Nat) (v : Value) (st : KS) (l : List Ch) (f : Fl) (w : World) (e : Ending) (w' : World) : Prop :=
 ∃ r : Int, e = .returned (I r) ∧ ((r = 0 ∧ ∃ v' g, Fresh w v v' ∧ SAtK w' sb lb pb fb bb cb mb kb n v' (appK st l) g ∧ StepOK f g ∧ Kept (StT sb lb fb bb cb mb kb v) w w') ∨
  (r = 2 ∧ ∃ g, StepDead f g ∧ AppDead n st l g ∧ FlAt w' fb bb cb g ∧ Kept (StT sb lb fb bb cb mb kb v) w w'))
theorem appK_num (st : KS) (l : List Ch) : (appK st l).num = putSegK st l := by
 unfold putSegK
 split
 ·next h => rw [appK_fit h]; rfl
 ·next h => rw [appK_new h]; unfold St.num; simp; omega
theorem oappend_arm (w : World) (sb lb pb fb bb cb mb kb n : Nat) (v : Value) (st : KS) (f : Fl) (h : SAtK w sb lb pb fb bb cb mb kb n v st f) (l : List Ch) (cv : Value) (hv : ChsAt w cv l) (hvq : ∀ q, cv.ownBlock = some q → q < w.heap.size ∧ q ∉ StT sb lb fb bb cb mb kb v)
  (hl : FormC l) (hl2 : l.length ≤ 1000) (spare : Nat) (hsp : spare ≤ 1000) (hroom : ¬ fitsK st l → spare + (st.init.length + 1) < n) (hnum : st.num ≤ 1000000000) (hsum : sumA wO st.M ≤ 100000) :
  Calls Tryz.prog 119 #[Ptr sb, cv, I spare] w (OApp sb lb pb fb bb cb mb kb n v st l f w) := by
 obtain ⟨C, hc, hct⟩ := h.core
 have hb := h.bound
 have hinv := h.inv
 have hfew := hinv.inv.few
 have hpg7 := pgs_le7 hl
 have hinvA := appK_inv hinv hl (fun hf => by have := hroom hf; omega)
 have HA := Lib.hid (fun W (k : Kept [] w W) => lapp_arm W lb pb fb bb cb n v st f (h.lg.same k) h.fl h.inv h.live l hl spare hsp hroom hnum)
 have HREC := Lib.hid (fun W (k : Kept [] w W) => orecord_any l cv W (hv.same k) hl2 (fun c hc => ⟨(hl.2.1 c hc).1, (hl.2.1 c hc).2.1, (hl.2.1 c hc).2.2.1⟩))
 have HF := Lib.hid (And.intro hinvA h)
 have HV := Lib.hid (And.intro hv (And.intro hvq (And.intro hl hl2)))
 have HCE := Lib.hid (fun W (k : Kept [] w W) => (hc.same k).cells)
 have HCC := Lib.hid (And.intro hc hct)
 have HLT : Hid (∀ x ∈ [sb, mb, kb], x < w.heap.size) := Lib.hid (fun x hx => h.lt.1 x (List.mem_append.2 (.inl hx)))
 obtain ⟨c0, c1, c2, c3, c4, c5⟩ := hc.cells
 have HN := Lib.hid (And.intro hnum (And.intro hsum (And.intro hfew (And.intro hb.1 hpg7))))
 clear hinvA h hv hvq hl hl2 hc hct hroom hinv hfew hb hpg7 hnum hsum
 go_enter Tryz.func119, Tryz.ntmps119
 go_upto_region 1 with (fail)
 go_cut [7] from 8 to 17 (fun v7 wx => ∃ r : Int, v7 = I r ∧ ((r = 0 ∧ ∃ g v', StepOK f g ∧ FlX n g (appK st l) false ∧ Fresh w v v' ∧ LgAt wx lb pb fb bb cb 1 n v' (sgs n (appK st l).D (appK st l).segs) g false ∧ CoreAt wx sb pb lb mb kb (sumA wO st.M) st.M C ∧ Kept (StT sb lb fb bb cb mb kb v) w wx) ∨
  (r = 2 ∧ ∃ g, StepDead f g ∧ AppDead n st l g ∧ FlAt wx fb bb cb g ∧ Kept (StT sb lb fb bb cb mb kb v) w wx)))
 case first =>
  obtain ⟨t0, t1, t2, t3, t4, t5⟩ := HCE.out w.drew ((Kept.refl [] w).drew)
  go_region_with (first
   | (go_at_call 115; (with_reducible refine (HREC.out _ (Kept.refl [] w).drew).mono ?_); rintro e w2 ⟨rfl, k2⟩; have K2 := (Kept.refl [] w).drew.trans' k2; have e1 := (HCE.out _ K2).2.1)
   | (go_at_call 150; (with_reducible refine (HA.out _ K2).mono ?_); rintro e w3 ⟨r3, rfl, hp3⟩; have hr3 : r3 = 0 ∨ r3 = 2 := (hp3.imp And.left And.left); have k3 : Kept (LgT lb fb bb cb v) w2 w3 := (hp3.elim (fun ⟨_, _, _, _, _, _, _, k⟩ => k) (fun ⟨_, _, _, _, _, k⟩ => k)); have hc3 := (HCC.out.1.same K2).kept k3 (HF.out.2.sep _ (by simp)).1 (HF.out.2.sep _ (by simp)).1 (HF.out.2.sep _ (by simp)).1; have HP3 := Lib.hid (And.intro hp3 k3); clear hp3)
   | (go_at_call 112; (with_reducible refine (stold_r _ sb pb lb mb kb _ _ C hc3 r3 hr3).mono ?_); rintro e w4 ⟨rfl, k4, hc4⟩; have HC4 := Lib.hid hc4; clear hc4))
  all_goals
   go_wp2
   go_meet
   have hlt := HLT.out
   refine ⟨r3, rfl, ?_⟩
   rcases HP3.out.1 with ⟨e0, g, v', hs, hfl, hfr, hlg, _⟩ | ⟨e0, g, hsd, had, hf3, _⟩
   ·refine .inl ⟨e0, g, v', hs, hfl, fresh_mono hfr K2.size, hlg.beside (sb := sb) (mb := mb) (kb := kb) (k4.mono (by simp)) (fresh_mono hfr K2.size) HF.out.2.sep hlt, HC4.out e0, (StT.sub0 K2).trans' ((StT.subL HP3.out.2).trans' (StT.subC (k4.mono (by simp))))⟩
   ·have hsp := (HF.out.2.sep sb (by simp)).1
    simp [LgT] at hsp
    exact .inr ⟨e0, g, hsd, had, hf3.kept k4 (by simp; omega) (by simp; omega) (by simp; omega), (StT.sub0 K2).trans' ((StT.subL HP3.out.2).trans' (StT.subC (k4.mono (by simp))))⟩
 case rest =>
 obtain ⟨r, rfl, hcut⟩ := hcut
 rcases hcut with ⟨rfl, g, v', hs, hfl, hfr, hlg, hcw, kw⟩ | ⟨rfl, hdead⟩
 case inr =>
  have HD := Lib.hid hdead
  clear hdead c0 c1 c2 c3 c4 c5
  go_wp2_with (fail)
  go_ret
  exact ⟨2, rfl, .inr ⟨rfl, HD.out⟩⟩
 have hlenA : (sgs n (appK st l).D (appK st l).segs).length = (appK st l).init.length + 1 := by rw [sgs_len, segs_len]
 have hfewA := HF.out.1.inv.few
 have hnumA : ((sgs n (appK st l).D (appK st l).segs).map (·.2))[(appK st l).init.length]? = some (putSegK st l) := by
  rw [sgs_nums, List.getElem?_map, List.getElem?_range (by rw [segs_len]; omega), ← appK_num]
  rfl
 have HNW := Lib.hid (snewest_any wc sb lb pb fb bb cb n v' _ g hlg hcw.cells.2.1 _ _ hlenA (by have := HN.out.2.2.2; omega) hnumA)
 have HX := Lib.hid (And.intro hfr (And.intro hlg (And.intro hcw (And.intro kw (And.intro hs hfl)))))
 clear hlenA hfewA hnumA hfr hlg hcw kw hs hfl c0 c1 c2 c3 c4 c5
 go_wp2_with (fail)
 refine HNW.out.mono ?_
 rintro e w5 ⟨rfl, k5⟩
 obtain ⟨hfr, hlg, hcw, kw, hs, hfl⟩ := HX.out
 obtain ⟨hv, hvq, hl, hl2⟩ := HV.out
 obtain ⟨hct1, hct2⟩ := ct_appK HF.out.2.inv HCC.out.2 HCC.out.1.ct.srt l HN.out.2.2.2.2
 have hps : putSegK st l ≤ 1000000000001 := by have := HN.out.1; unfold putSegK; split <;> omega
 have hpp : putPosK st l ≤ 7 := by have := last_few HF.out.2.inv.inv; unfold putPosK; split <;> omega
 have hcl : C.length ≤ 1000 := by
  have h1 := ct_few HCC.out.2 HCC.out.1.ct.srt
  rw [segs_len] at h1
  have := HN.out.2.2.1
  have := HN.out.2.2.2.1
  omega
 have HTK := Lib.hid (takes_any w5 sb pb lb mb kb st.M C (hcw.same k5) l cv (hv.kept (kw.trans' (StT.sub0 k5)) (fun q hq => (hvq q hq).2)) (fun q hq hm => (hvq q hq).2 (List.mem_append.2 (.inl hm))) hl2 (fun c hc => ⟨(hl.2.1 c hc).1, (hl.2.1 c hc).2.1, (hl.2.1 c hc).2.2.1⟩) (vals_of HF.out.2.inv.inv) HN.out.2.1 (putSegK st l) (putPosK st l) (by have := HN.out.1; unfold putSegK; split <;> omega) hct1 (by omega) hcl)
 have HX2 := Lib.hid (And.intro hfr (And.intro (hlg.same k5) (And.intro (kw.trans' (StT.sub0 k5)) (And.intro hct2 (And.intro hs hfl)))))
 clear hfr hlg hcw kw hv hvq hl hl2 hct1 hct2 hps hpp hcl k5 HX HNW hs hfl
 go_wp2_with (fail)
 refine HTK.out.mono ?_
 rintro e w6 ⟨rfl, hc6, k6⟩
 have H6 := Lib.hid (And.intro hc6 k6)
 clear hc6 k6 HTK
 go_wp2_with (fail)
 go_ret
 obtain ⟨hfr, hlg, kw, hct, hs, hfl⟩ := HX2.out
 obtain ⟨hc6, k6⟩ := H6.out
 rw [← appK_M] at hc6
 exact ⟨0, rfl, .inl ⟨rfl, v', g, hfr, ⟨hlg.beside k6 hfr HF.out.2.sep HLT.out, ⟨_, hc6, hct⟩, hfl, HF.out.1, hs.arm, sep_fresh hfr HF.out.2.sep HLT.out⟩, hs, kw.trans' (StT.subC k6)⟩⟩
end Go.Proofs.YteplbljjlbdhaaaGreatDoor
