/- Walks and lemmas on the program of this seat, used by its statements; each theorem bears its own conditions. -/
import Derived.Test.YteplbljjlbdhaaaGreatDoorZ45
namespace Go.Proofs.YteplbljjlbdhaaaGreatDoor
open Go.RowKit
set_option linter.unusedVariables false
set_option linter.unusedSimpArgs false
set_option linter.unusedSectionVars false
set_option maxHeartbeats 16000000
set_option maxRecDepth 100000
theorem rtry_after {w w1 w2 w3 : World} {mb n given given' : Nat} {v : Value} {E E' : List Nd} (h : DF w mb n given v E) (k1 : Kept [] w w1) {v' : Value} {lo : Nat} (own : EDOwn w1 lo v' E') (hlo : w.heap.size ≤ lo) (k2 : Kept [] w1 w2) (k3 : Kept [] (w2.alloc (.cells #[I n, I given', v'] 47)) w3) (hE : E'.length ≤ 1000) (hg : given' ≤ 16777215) (hw : WF given' E') :
  Calls Tryz.prog 42 #[Ptr mb, Ptr w2.heap.size] w3 (RDP w mb n v (tryF n given E given' E')) := by
 have ka : Kept [] w w3 := ((k1.trans' k2).alloc _).trans' k3
 have hlt := h.lt
 have hmb : ∀ q, v'.ownBlock = some q → w.heap.size ≤ q := fun q hq => Nat.le_trans hlo (own_lt own q hq).1
 have hs : w.heap.size ≤ w2.heap.size := (k1.trans' k2).size
 refine (rtries_any _ mb w2.heap.size n given given' given' v v' E E' (h.at'.same ka) ⟨k3.at (heap_new _ _) (by simp), (((EDOwn.at own).same k2).same ((Kept.refl _ _).alloc _)).same k3⟩ (by omega) hE hg hw h.eight h.big h.own (fun q hq => by have := hmb q hq; omega)).mono ?_
 rintro e w' ⟨rfl, ⟨v'', hv, hf⟩, k⟩
 refine ⟨rfl, ⟨v'', hf, fun q hq => ?_⟩, (ka.mono (by simp)).trans' k⟩
 rcases hv with rfl | rfl
 ·exact .inl hq
 ·exact .inr ⟨hmb q hq, Nat.lt_of_lt_of_le (own_lt own q hq).2 (Nat.le_trans (k2.size) (Nat.le_trans ((Kept.refl [] w2).alloc _).size (Nat.le_trans k3.size k.size)))⟩
theorem rremove_any (w : World) (mb n given : Nat) (v : Value) (E : List Nd) (h : DF w mb n given v E) (s : List UInt8) (hs : s.length ≤ 1048576) :
    Calls Tryz.prog 22 #[Ptr mb, S s] w (RDP w mb n v (removeF n given E s)) := by
  have HI := Lib.hid (rispath_any s hs w)
  have H := Lib.hid h
  obtain ⟨i0, hi, hz0, hz1, hz2⟩ := info_parts ed_info
  have HIN := Lib.hid (And.intro hi (And.intro hz0 (And.intro hz1 hz2)))
  obtain ⟨R, hR⟩ : ∃ R, removeF n given E s = R := ⟨_, rfl⟩
  have HR := Lib.hid hR
  rw [hR]
  clear hi hz0 hz1 hz2
  cases hp : WX.pathF s with
  | none =>
    rw [hp] at HI
    have HE : Hid (R = (160, given, E)) := Lib.hid (by rw [← HR.out]; unfold removeF; rw [hp])
    clear h hR hp hs
    go_enter Tryz.func22, Tryz.ntmps22
    go_wp2_with (fail)
    refine HI.out.mono ?_
    rintro e w1 ⟨rfl, k1⟩
    have K1 := Lib.hid k1
    clear k1
    go_wp2_with (fail)
    go_ret
    rw [HE.out]
    exact RDP.no H.out.at' K1.out 160
  | some p =>
    rw [hp] at HI
    obtain ⟨hsp, hpv⟩ := pathT_of hp
    have hrt := pathT_root hpv
    rw [← hsp] at hrt
    have HS := Lib.hid (And.intro hsp hpv)
    have HMK : Hid (R = if p = [] then (164, given, E) else if findF E [] p ≠ 0 then (((findF E [] p : Nat) : Int), given, E) else if kids E p ≠ [] then (164, given, E) else tryF n given E given (remE E p)) := Lib.hid (by rw [← HR.out]; unfold removeF; rw [hp])
    by_cases hpn : p = []
    · rw [decide_eq_true hpn] at hrt
      have HE : Hid (R = (164, given, E)) := Lib.hid (by rw [HMK.out, if_pos hpn])
      clear h hR hp hs hsp hpv hpn
      go_enter Tryz.func22, Tryz.ntmps22
      go_wp2_with (fail)
      refine HI.out.mono ?_
      rintro e w1 ⟨rfl, k1⟩
      have K1 := Lib.hid k1
      clear k1
      go_wp2_with (fail)
      go_ret
      rw [HE.out]
      exact RDP.no H.out.at' K1.out 164
    rw [decide_eq_false hpn] at hrt
    have HF := Lib.hid (fun W (k : Kept [] w W) => rfind_any (h.at'.same k) (by have := h.few; omega) h.wf p hpv)
    have HNM := Lib.hid (fun W (k : Kept [] w W) => rnames_any W mb n given given v E (h.at'.same k) (by have := h.few; omega) h.wf p hpv)
    rw [← hsp] at HF HNM
    obtain ⟨z, hz⟩ : ∃ z, findF E [] p = z := ⟨_, rfl⟩
    rw [hz] at HF
    have HMK2 : Hid (R = if z ≠ 0 then ((z : Int), given, E) else if kids E p ≠ [] then (164, given, E) else tryF n given E given (remE E p)) := Lib.hid (by rw [HMK.out, if_neg hpn, hz])
    obtain ⟨kl, hkl⟩ : ∃ kl, kids E p = kl := ⟨_, rfl⟩
    have hk6 := h.wf.few p
    rw [hkl] at HNM hk6
    have HPN := Lib.hid (And.intro hpn (And.intro hz hkl))
    obtain ⟨c0, c1, c2⟩ := h.at'.cells
    have hat := h.at'.2
    obtain ⟨lp, lc, lb, rfl, hcap, hlp, hcells⟩ := hat
    have HC := Lib.hid (And.intro c0 (And.intro c1 (And.intro c2 (And.intro hlp hcells))))
    have hEI : (E.length : Int) ≤ 900 := by have := h.few; omega
    have hk6I : (kl.length : Int) ≤ 6 := by omega
    clear h hR hp hs hsp hpv hpn hz hkl c0 c1 c2 hcap hlp hcells hk6
    go_enter Tryz.func22, Tryz.ntmps22
    go_wp2_with (fail)
    refine HI.out.mono ?_
    rintro e w1 ⟨rfl, k1⟩
    have K1 := Lib.hid k1
    clear k1
    go_wp2_with (fail)
    refine (HF.out w1 K1.out).mono ?_
    rintro e w2 ⟨rfl, k2⟩
    have K2 := Lib.hid (K1.out.trans' k2)
    clear k2
    by_cases hz : z = 0
    case neg =>
      have hzb : ((z : Int) != 0) = true := by simpa using hz
      have HE : Hid (R = ((z : Int), given, E)) := Lib.hid (by rw [HMK2.out, if_pos hz])
      clear hz
      go_wp2_with (fail)
      go_ret
      rw [HE.out]
      exact RDP.no H.out.at' K2.out z
    case pos =>
    subst hz
    have HMK3 : Hid (R = if kl ≠ [] then (164, given, E) else tryF n given E given (remE E p)) := Lib.hid (by rw [HMK2.out, if_neg (by simp), HPN.out.2.2])
    go_wp2_with (fail)
    refine (HNM.out w2 K2.out).mono ?_
    rintro e w3 ⟨⟨lv, rfl, hlv⟩, k3⟩
    obtain ⟨ap, ac, rfl⟩ : ∃ ap ac, lv = .slice ap kl.length ac := by obtain ⟨a, b, c, _⟩ := hlv; rw [List.length_map] at c; exact ⟨a, b, c⟩
    have K3 := Lib.hid (K2.out.trans' k3)
    clear hlv k3
    by_cases hk0 : kl = []
    case neg =>
      have hz1 : (0 : Int) < kl.length := by have := List.length_pos_iff.2 hk0; omega
      have HE : Hid (R = (164, given, E)) := Lib.hid (by rw [HMK3.out, if_pos hk0])
      clear hk0
      go_wp2_with (fail)
      go_ret
      rw [HE.out]
      exact RDP.no H.out.at' K3.out 164
    case pos =>
    have HE : Hid (R = tryF n given E given (remE E p)) := Lib.hid (by rw [HMK3.out, if_neg (by simpa using hk0)])
    have HK0 := Lib.hid (HPN.out.2.2.trans hk0)
    subst hk0
    have y0 := K3.out.cellOf HC.out.1
    have y1 := K3.out.cellOf HC.out.2.1
    have y2 := K3.out.cellOf HC.out.2.2.1
    have HY := Lib.hid (And.intro y0 (And.intro y1 y2))
    have hO : EDOwn (w3.alloc (Obj.cells #[] 85)) w3.heap.size (.slice (some ⟨w3.heap.size, 0, none⟩) 0 0) [] := ⟨rfl, .inr ⟨w3.heap.size, 0, #[], rfl, Nat.le_refl _, heap_new w3 _, Nat.le_refl _, Nat.zero_le _, rfl, rfl⟩⟩
    have HO := Lib.hid hO
    clear y0 y1 y2 hO
    go_wp2_with (fail)
    go_loopw [6, 7] (fun v6 v7 wr => ∃ (k g c : Nat) (l : List Nd), k ≤ E.length ∧ v7 = I k ∧ v6 = .slice (some ⟨g, 0, none⟩) l.length c ∧ l.length ≤ k ∧ l = (E.take k).filter (fun y => decide (y.path ≠ p)) ∧ EDOwn wr w3.heap.size (.slice (some ⟨g, 0, none⟩) l.length c) l ∧ Kept [] w3 wr) (fun _ v7 _ => E.length - (intOf v7).toNat)
    case atStart => exact ⟨0, w3.heap.size, 0, [], by omega, rfl, rfl, by simp, rfl, HO.out, (Kept.refl _ _).alloc _⟩
    case round =>
      obtain ⟨k, g, c, l, hk, rfl, rfl, hlk, hll, own, kr⟩ := hrel
      have y0 := kr.cellOf HY.out.1
      have y1 := kr.cellOf HY.out.2.1
      have y2 := kr.cellOf HY.out.2.2
      have hlI : (l.length : Int) ≤ 900 := by omega
      obtain ⟨hi, hz0, hz1, hz2⟩ := HIN.out
      by_cases hlt : k < E.length
      · have hltI : (k : Int) < E.length := by omega
        obtain ⟨-, -, -, hlp, hcells⟩ := HC.out
        have hpe := hlp (by intro h; rw [h] at hlt; simp at hlt)
        subst hpe
        obtain ⟨d0, d1, d2⟩ := hcells k hlt
        have f0 := (K3.out.trans' kr).cellOf d0
        have f1 := (K3.out.trans' kr).cellOf d1
        have f2 := (K3.out.trans' kr).cellOf d2
        have hq := pathT_eq (H.out.wf.pv (List.getElem_mem hlt)) HS.out.2
        rw [← HS.out.1] at hq
        have htk : (E.take (k + 1)).filter (fun y => decide (y.path ≠ p)) = if E[k].path = p then (E.take k).filter (fun y => decide (y.path ≠ p)) else (E.take k).filter (fun y => decide (y.path ≠ p)) ++ [E[k]] := by
          rw [List.take_add_one, List.getElem?_eq_getElem hlt, List.filter_append]
          by_cases h : E[k].path = p <;> simp [h]
        obtain ⟨y, hy⟩ : ∃ y, E[k] = y := ⟨_, rfl⟩
        rw [hy] at f0 f1 f2 hq htk
        have hyp : edCells [y] = [S (pathT y.path), .bool y.dir, S y.data] := rfl
        obtain ⟨yt, hyt⟩ : ∃ yt, pathT y.path = yt := ⟨_, rfl⟩
        obtain ⟨yd, hyd⟩ : ∃ yd, y.dir = yd := ⟨_, rfl⟩
        obtain ⟨yb, hyb⟩ : ∃ yb, y.data = yb := ⟨_, rfl⟩
        rw [hyt, hyd, hyb] at hyp
        rw [hyt] at f0 hq
        rw [hyd] at f1
        rw [hyb] at f2
        have HJ := Lib.hid (And.intro own (And.intro kr (And.intro hll (And.intro hlk (And.intro htk hyp)))))
        by_cases hpp : y.path = p
        · rw [decide_eq_true hpp] at hq
          have HT : Hid ((E.take (k + 1)).filter (fun y => decide (y.path ≠ p)) = l) := Lib.hid (by rw [htk, if_pos hpp, hll])
          clear own kr hll hlk htk hlp hcells d0 d1 d2 hy hyp hyt hyd hyb hpp
          go_wp2_with (fail)
          go_roundw
          case rel =>
            obtain ⟨own, kr, hll, hlk, htk, hyp⟩ := HJ.out
            exact ⟨k + 1, g, c, l, by omega, by go_num, rfl, by omega, HT.out.symm, own, kr⟩
          case measure => simp [intOf]; omega
        · rw [decide_eq_false hpp] at hq
          have HT : Hid ((E.take (k + 1)).filter (fun y => decide (y.path ≠ p)) = l ++ [y]) := Lib.hid (by rw [htk, if_neg hpp, hll])
          clear own kr hll hlk htk hlp hcells d0 d1 d2 hy hyp hyt hyd hyb hpp
          go_wp2_with (first
            | (at_builtin
               refine wpList_append_lies _ rfl (.tmp 44) (.tmp 52) 45 rfl w3.heap.size 85 i0 (.agg #[S [], .bool false, S []]) 3 40 Tryz.underlying45 hi hz0 hz1 hz2 rfl (by decide) (.slice (some ⟨g, 0, none⟩) l.length c) l.length (edCells l) rfl (own_kept (T := []) HJ.out.1 (by first | exact Kept.refl _ _ | exact (Kept.refl _ _).drew | exact (Kept.refl _ _).alloc _ | exact ((Kept.refl _ _).alloc _).drew | exact ((Kept.refl _ _).drew).alloc _ | exact ((Kept.refl _ _).alloc _).alloc _ | exact ((Kept.refl _ _).drewN _).alloc _ | exact (Kept.refl _ _).drewN _) (by simp)) ⟨_, 0, none⟩ 1 1 [S yt, .bool yd, S yb] rfl rfl (World.news_of_block (heap_new _ _)) (by intro u hu; simp at hu; rcases hu with rfl | rfl | rfl <;> rfl) (by decide) (by unfold maxLen; omega) (by omega) (Nat.le_trans HJ.out.2.1.size (show Kept [] wr _ from by first | exact Kept.refl _ _ | exact (Kept.refl _ _).drew | exact (Kept.refl _ _).alloc _ | exact ((Kept.refl _ _).alloc _).drew | exact ((Kept.refl _ _).drew).alloc _ | exact ((Kept.refl _ _).alloc _).alloc _ | exact ((Kept.refl _ _).drewN _).alloc _ | exact (Kept.refl _ _).drewN _).size) _ rfl ?_
               intro g2 cap wa own1 gr1 hat hlt2
               have HA := Lib.hid (And.intro own1 (((show Kept [] wr _ from by first | exact Kept.refl _ _ | exact (Kept.refl _ _).drew | exact (Kept.refl _ _).alloc _ | exact ((Kept.refl _ _).alloc _).drew | exact ((Kept.refl _ _).drew).alloc _ | exact ((Kept.refl _ _).alloc _).alloc _ | exact ((Kept.refl _ _).drewN _).alloc _ | exact (Kept.refl _ _).drewN _).mono (by simp)).trans' (kept_grown gr1)))
               clear own1 gr1 hat hlt2))
          go_roundw
          case rel =>
            obtain ⟨own1, kg⟩ := HA.out
            obtain ⟨own, kr, hll, hlk, htk, hyp⟩ := HJ.out
            have hgw : ∀ q, q ∈ (Value.slice (some ⟨g, 0, none⟩) l.length c).ownBlock.toList → w3.heap.size ≤ q := fun q hq => (own_lt own q (Option.mem_toList.1 hq)).1
            refine ⟨k + 1, g2, cap, l ++ [y], by omega, by go_num, by rw [List.length_append]; rfl, by rw [List.length_append]; simp; omega, HT.out.symm, ?_, kr.new kg hgw⟩
            unfold EDOwn
            rw [List.length_append, edCells_append, hyp]
            exact own1
          case measure => simp [intOf]; omega
      · have hke : k = E.length := by omega
        subst hke
        rw [List.take_length] at hll
        have hrem : l = remE E p := hll
        have hp0 := HPN.out.1
        have hx : ∃ x, ent E p = some x := by
          have := find_ent E p [] HPN.out.2.1 hp0
          exact Option.isSome_iff_exists.1 this
        have hwf : WF given l := by
          obtain ⟨x, hx⟩ := hx
          have := wf_rem H.out.wf (ent_mem hx).1 (by rw [(ent_mem hx).2]; exact HK0.out)
          rw [(ent_mem hx).2] at this
          rw [hrem]
          exact this
        have HTR := Lib.hid (rtry_after (given' := given) H.out (K3.out.trans' kr) own K3.out.size (Kept.refl [] wr) ((Kept.refl [] _).drew) (by omega) (by have := H.out.gv; omega) hwf)
        have HE2 : Hid (R = tryF n given E given l) := Lib.hid (by rw [HE.out, hrem])
        have HK := Lib.hid kr
        clear own kr hll hlk hlt hrem hx hwf hp0
        go_wp2_with (fail)
        go_region_law (first
          | (go_simp; go_at_call 42; (with_reducible refine HTR.out.mono ?_); rintro e w6 ⟨rfl, hP⟩))
        all_goals
          have HP := Lib.hid hP
          clear hP
          go_wp2
          go_ret
          rw [HE2.out]
          exact ⟨rfl, HP.out⟩
theorem cut47 : ∀ {a b x y : List UInt8}, (∀ c ∈ a, c ≠ 47) → (∀ c ∈ b, c ≠ 47) → a ++ 47 :: x = b ++ 47 :: y → a = b ∧ x = y
 | [], [], _, _, _, _, h => by simpa using h
 | [], c :: b, _, _, _, hb, h => by
  simp only [List.nil_append, List.cons_append, List.cons.injEq] at h
  exact absurd h.1.symm (hb c (by simp))
 | c :: a, [], _, _, ha, _, h => by
  simp only [List.nil_append, List.cons_append, List.cons.injEq] at h
  exact absurd h.1 (ha c (by simp))
 | c :: a, d :: b, _, _, ha, hb, h => by
  simp only [List.cons_append, List.cons.injEq] at h
  obtain ⟨h1, h2⟩ := cut47 (fun c hc => ha c (by simp [hc])) (fun c hc => hb c (by simp [hc])) h.2
  exact ⟨by rw [h.1, h1], h2⟩
theorem slashed_cons (n : Nm) (p : List Nm) : slashed (n :: p) = 47 :: (n ++ slashed p) := rfl
theorem slashed_head (p : List Nm) : p = [] ∨ ∃ z, slashed p = 47 :: z := by
 cases p with
 | nil => exact .inl rfl
 | cons n p => exact .inr ⟨_, rfl⟩
def No47 (p : List Nm) : Prop := ∀ n ∈ p, ∀ c ∈ n, c ≠ 47
theorem PV.no47 {p : List Nm} (h : PV p) : No47 p := WX.name_no47 h.2
theorem pre_text : ∀ {p y : List Nm}, No47 p → No47 y → ((∃ z, slashed y = slashed p ++ 47 :: z) ↔ ∃ r, r ≠ [] ∧ y = p ++ r)
 | [], y, _, _ => by
  constructor
  ·rintro ⟨z, h⟩
   refine ⟨y, ?_, rfl⟩
   rintro rfl
   cases h
  ·rintro ⟨r, hr, e⟩
   rw [e]
   rcases slashed_head r with h | ⟨z, h⟩
   ·exact absurd h hr
   ·exact ⟨z, by rw [List.nil_append]; exact h⟩
 | n :: p, y, hp, hy => by
  have hp' : No47 p := fun m hm => hp m (by simp [hm])
  cases y with
  | nil =>
   constructor
   ·rintro ⟨z, h⟩; cases h
   ·rintro ⟨r, hr, h⟩; cases h
  | cons m y =>
   have hy' : No47 y := fun k hk => hy k (by simp [hk])
   have ih := pre_text hp' hy'
   constructor
   ·rintro ⟨z, h⟩
    rw [slashed_cons, slashed_cons, List.cons_append, List.cons.injEq, List.append_assoc] at h
    have h := h.2
    obtain ⟨u, hu⟩ : ∃ u, slashed p ++ 47 :: z = 47 :: u := by
     rcases slashed_head p with hh | ⟨u, hh⟩
     ·subst hh; exact ⟨z, rfl⟩
     ·rw [hh]; exact ⟨_, rfl⟩
    rcases slashed_head y with hh | ⟨u2, hh⟩
    ·exfalso
     subst hh
     rw [hu] at h
     have e : m = n ++ 47 :: u := by simpa [slashed] using h
     exact hy m (by simp) 47 (by rw [e]; simp) rfl
    ·rw [hh, hu] at h
     obtain ⟨e1, e2⟩ := cut47 (hy m (by simp)) (hp n (by simp)) h
     have : slashed y = slashed p ++ 47 :: z := by rw [hh, hu, e2]
     obtain ⟨r, hr, e3⟩ := ih.1 ⟨z, this⟩
     exact ⟨r, hr, by rw [e1, e3]; rfl⟩
   ·rintro ⟨r, hr, h⟩
    rw [List.cons_append, List.cons.injEq] at h
    obtain ⟨z, hz⟩ := ih.2 ⟨r, hr, h.2⟩
    exact ⟨z, by rw [slashed_cons, slashed_cons, hz, h.1]; simp⟩
def belowB (y p : List Nm) : Bool := decide (p.length < y.length) && p.isPrefixOf y
theorem belowB_iff {y p : List Nm} : belowB y p = true ↔ ∃ r, r ≠ [] ∧ y = p ++ r := by
 unfold belowB
 rw [Bool.and_eq_true, decide_eq_true_eq, pre_iff]
 constructor
 ·rintro ⟨h1, r, h2⟩
  refine ⟨r, ?_, h2⟩
  rintro rfl
  rw [h2, List.append_nil] at h1
  omega
 ·rintro ⟨r, hr, h⟩
  have := List.length_pos_iff.2 hr
  exact ⟨by rw [h, List.length_append]; omega, r, h⟩
theorem below_text {y p : List Nm} (hp : No47 p) (hy : No47 y) (hpn : p ≠ []) : belowB y p = true ↔ ((pathT p).length < (pathT y).length ∧ (pathT y).take (pathT p).length = pathT p ∧ byteAt (pathT y) (pathT p).length = 47) := by
 have ep : pathT p = slashed p := by unfold pathT; rw [if_neg hpn]
 have hp2 : 1 ≤ (slashed p).length := by rcases slashed_head p with h | ⟨z, h⟩; exact absurd h hpn; rw [h]; simp
 rw [belowB_iff, ← pre_text hp hy]
 by_cases hyn : y = []
 ·subst hyn
  constructor
  ·rintro ⟨z, h⟩
   have := congrArg List.length h
   simp [slashed] at this
  ·rintro ⟨h, _⟩
   rw [ep, pathT_nil] at h
   simp only [List.length_cons, List.length_nil] at h
   omega
 ·have ey : pathT y = slashed y := by unfold pathT; rw [if_neg hyn]
  rw [ep, ey]
  constructor
  ·rintro ⟨z, h⟩
   rw [h]
   refine ⟨by simp, by simp, ?_⟩
   unfold byteAt
   rw [List.getD_eq_getElem?_getD, List.getElem?_append_right (Nat.le_refl _), Nat.sub_self]
   rfl
  ·rintro ⟨h1, h2, h3⟩
   refine ⟨(slashed y).drop ((slashed p).length + 1), ?_⟩
   have h4 := byteAt_eq (slashed y) (slashed p).length h1
   rw [h3] at h4
   have h5 := List.drop_eq_getElem_cons h1
   rw [← h4] at h5
   have h6 := List.take_append_drop (slashed p).length (slashed y)
   rw [h2, h5] at h6
   exact h6.symm
theorem rbelow_any (y p : List Nm) (hp : PV p) (hy : PV y) (hpn : p ≠ []) (w : World) :
  Calls Tryz.prog 63 #[S (pathT y), S (pathT p)] w fun e w' => e = .returned (.bool (belowB y p)) ∧ w' = w := by
 have hb := below_text hp.no47 hy.no47 hpn
 have l1 := pathT_len hp
 have l2 := pathT_len hy
 obtain ⟨a, ha⟩ : ∃ a, pathT y = a := ⟨_, rfl⟩
 obtain ⟨b, hbb⟩ : ∃ b, pathT p = b := ⟨_, rfl⟩
 obtain ⟨R, hR⟩ : ∃ R, belowB y p = R := ⟨_, rfl⟩
 rw [ha, hbb, hR] at hb
 rw [ha] at l2
 rw [hbb] at l1
 rw [ha, hbb, hR]
 have HB := Lib.hid hb
 have haI : (a.length : Int) ≤ 201 := by omega
 have hbI : (b.length : Int) ≤ 201 := by omega
 clear hb l1 l2 ha hbb hR hp hy hpn
 go_enter Tryz.func63, Tryz.ntmps63
 by_cases c1 : b.length < a.length
 case neg =>
  have c1I : ¬ (b.length : Int) < a.length := by omega
  have HX : Hid (R = false) := Lib.hid (by cases hR : R with | false => rfl | true => exact absurd (HB.out.1 hR).1 c1)
  clear c1
  go_wp2_with (fail)
  go_ret
  exact ⟨by rw [HX.out]; rfl, rfl⟩
 case pos =>
 have c1I : (b.length : Int) < a.length := by omega
 have c1J : (b.length : Int) ≤ a.length := by omega
 by_cases c2 : a.take b.length = b
 case neg =>
  have c2b : (a.take b.length == b) = false := by simpa using c2
  have HX : Hid (R = false) := Lib.hid (by cases hR : R with | false => rfl | true => exact absurd (HB.out.1 hR).2.1 c2)
  clear c2 c1
  go_wp2_with (fail)
  go_ret
  exact ⟨by rw [HX.out]; rfl, rfl⟩
 case pos =>
 have c2b : (a.take b.length == b) = true := by simpa using c2
 by_cases c3 : byteAt a b.length = 47
 case neg =>
  have c3b : (((byteAt a b.length).toNat : Int) == 47) = false := by
   rw [beq_eq_false_iff_ne]
   intro e
   exact c3 (UInt8.toNat_inj.1 (by show (byteAt a b.length).toNat = 47; omega))
  have HX : Hid (R = false) := Lib.hid (by cases hR : R with | false => rfl | true => exact absurd (HB.out.1 hR).2.2 c3)
  clear c2 c1 c3
  go_wp2_with (fail)
  go_ret
  exact ⟨by rw [HX.out]; rfl, rfl⟩
 case pos =>
  have c3b : (((byteAt a b.length).toNat : Int) == 47) = true := by rw [c3]; rfl
  have HX : Hid (R = true) := Lib.hid (HB.out.2 ⟨c1, c2, c3⟩)
  clear c2 c1 c3
  go_wp2_with (fail)
  go_ret
  exact ⟨by rw [HX.out]; rfl, rfl⟩
theorem count_slashed : ∀ {p : List Nm}, No47 p → (slashed p).count 47 = p.length
 | [], _ => rfl
 | n :: p, h => by
  rw [slashed_cons, List.count_cons, List.count_append, count_slashed (fun m hm => h m (by simp [hm])), List.count_eq_zero.2 (fun hc => h n (by simp) 47 hc rfl)]
  simp
theorem rdeep_any (s : List UInt8) (hs : s.length ≤ 1000) (w : World) :
  Calls Tryz.prog 64 #[S s] w fun e w' => e = .returned (I (s.count 47 : Nat)) ∧ w' = w := by
 obtain ⟨R, hR⟩ : ∃ R, s.count 47 = R := ⟨_, rfl⟩
 have HR := Lib.hid hR
 rw [hR]
 have hsI : (s.length : Int) ≤ 1000 := by omega
 clear hR
 go_enter Tryz.func64, Tryz.ntmps64
 go_wp2_with (fail)
 go_loop [3, 4] (fun v3 v4 => ∃ k : Nat, k ≤ s.length ∧ v4 = I k ∧ v3 = I (((s.take k).count 47 : Nat) : Int)) (fun _ v4 => s.length - (intOf v4).toNat)
 case atStart => exact ⟨0, by omega, rfl, rfl⟩
 case round =>
  obtain ⟨k, hk, rfl, rfl⟩ := hrel
  have hcl : (s.take k).count 47 ≤ k := Nat.le_trans List.count_le_length (by rw [List.length_take]; omega)
  by_cases hlt : k < s.length
  ·have hltI : (k : Int) < s.length := by omega
   have htk : (s.take (k + 1)).count 47 = (s.take k).count 47 + (if byteAt s k = 47 then 1 else 0) := by
    rw [List.take_add_one, List.getElem?_eq_getElem hlt, List.count_append, byteAt_eq s k hlt]
    congr 1
    by_cases h : s[k] = 47 <;> simp [h]
   obtain ⟨C, hC⟩ : ∃ C, (s.take k).count 47 = C := ⟨_, rfl⟩
   rw [hC] at htk hcl ⊢
   have hCI : (C : Int) ≤ 1000 := by omega
   by_cases h47 : byteAt s k = 47
   ·have hb : (((byteAt s k).toNat : Int) == 47) = true := by rw [h47]; rfl
    have HT : Hid ((s.take (k + 1)).count 47 = C + 1) := Lib.hid (by rw [htk, if_pos h47])
    clear htk h47 hC hcl
    go_wp2_with (fail)
    go_round
    case rel => exact ⟨k + 1, by omega, by go_num, by rw [HT.out]; go_num⟩
    case measure => simp [intOf]; omega
   ·have hb : (((byteAt s k).toNat : Int) == 47) = false := by
     rw [beq_eq_false_iff_ne]
     intro e
     exact h47 (UInt8.toNat_inj.1 (by show (byteAt s k).toNat = 47; omega))
    have HT : Hid ((s.take (k + 1)).count 47 = C) := Lib.hid (by rw [htk, if_neg h47]; rfl)
    clear htk h47 hC hcl
    go_wp2_with (fail)
    go_round
    case rel => exact ⟨k + 1, by omega, by go_num, by rw [HT.out]⟩
    case measure => simp [intOf]; omega
  ·have hke : k = s.length := by omega
   subst hke
   rw [List.take_length]
   have HX : Hid (R = s.count 47) := Lib.hid HR.out.symm
   obtain ⟨C, hC⟩ : ∃ C, s.count 47 = C := ⟨_, rfl⟩
   rw [hC] at HX ⊢
   clear hlt hcl hC
   go_wp2_with (fail)
   go_ret
   exact ⟨by rw [HX.out]; rfl, rfl⟩
end Go.Proofs.YteplbljjlbdhaaaGreatDoor
