/- Walks and lemmas on the program of this seat, used by its statements; each theorem bears its own conditions. -/
import Derived.Test.YteplbljjlbdhaaaGreatDoorZ34
namespace Go.Proofs.YteplbljjlbdhaaaGreatDoor
open Go.RowKit
set_option linter.unusedVariables false
set_option linter.unusedSimpArgs false
set_option linter.unusedSectionVars false
set_option maxHeartbeats 16000000
set_option maxRecDepth 100000
def makeF (n given : Nat) (E : List Nd) (s : List UInt8) (dir : Bool) : Int × Nat × List Nd := match WX.pathF s with
 | none => (160, given, E)
 | some p => if p = [] then (162, given, E) else if findF E [] p.dropLast ≠ 0 then (((findF E [] p.dropLast : Nat) : Int), given, E) else if isDirP E p.dropLast = false then (163, given, E) else if (ent E p).isSome = true then (162, given, E) else if (kids E p.dropLast).length = 6 then (165, given, E) else tryF n given E (given + 1) (E ++ [⟨p, given + 2, dir, []⟩])
def NV (dir : Bool) : Value := if dir then .iface 87 (.slice none 0 0) else .iface 78 (.agg #[I 0])
theorem changes_gone {w : World} {ff fb sb n : Nat} {V : OM} {d : Nat} {T : List Nat} {z : Bool} {given : Nat} {E : List Nd} {U : List Nat} (h : CH w ff fb sb n V d T z given E U) (hd5 : d ≤ 500000000) :
  Calls Tryz.prog 77 #[Ptr ff] w fun e w' => (e = .returned (.bool false) ∧ ∃ T', CH w' ff fb sb n V (d + n + 1) T' z given E U ∧ Kept T w w' ∧ (∀ x ∈ T', x ∈ T ∨ w.heap.size ≤ x)) ∨ (e = .returned (.bool true) ∧ z = false ∧ ∃ T', PF w' fb n V V (d + n + 1) T' ∧ Kept T w w' ∧ (∀ x ∈ T', x ∈ T ∨ w.heap.size ≤ x)) := by
 refine (gone_any w ff fb sb n V d T z h.st (by omega) h.cell).mono ?_
 rintro e w' ⟨b, rfl, T', hp, hlt, hk, hT⟩
 have hn := h.st.stk.small.2.1
 rcases hp with ⟨rfl, hs⟩ | ⟨rfl, hz, hp⟩
 ·exact .inl ⟨rfl, T', h.turn hk hs hT h.sim h.wf h.gv (by omega), hk, hT⟩
 ·exact .inr ⟨rfl, hz, T', hp, hk, hT⟩
theorem rowN_len (dir : Bool) : (rowN dir).length ≤ 3 := by cases dir <;> simp [rowN, rowD, rowF, putN_len]
theorem rowN_any (dir : Bool) (w : World) : (dir = true → Calls Tryz.prog 60 #[.slice none 0 0] w fun e w' => e = .returned (S (rowN dir)) ∧ Kept [] w w') ∧ (dir = false → Calls Tryz.prog 48 #[.agg #[I 0]] w fun e w' => e = .returned (S (rowN dir)) ∧ Kept [] w w') := by
 constructor
 ·rintro rfl
  exact erow_any w _ [] (EnsAt.nil w) (by simp) (by simp)
 ·rintro rfl
  exact frow_any w 0 (by decide)
theorem row_kids {given : Nat} {E : List Nd} (h : WF given E) (hg : given ≤ 16777215) (p : List Nm) {l : List En} (hl : ∀ q ∈ l, q ∈ kids E p ∨ (q.1.length ≤ 24 ∧ q.2 ≤ 16777216)) : (∀ x ∈ l, x.1.length ≤ 255 ∧ x.2 < 4294967296) ∧ (rowD l).length ≤ 29 * l.length + 1 := by
 have h1 : ∀ x ∈ l, x.1.length ≤ 24 ∧ x.2 ≤ 16777216 := fun x hx => by
  rcases hl x hx with h2 | h2
  ·have := h.kid hg h2; omega
  ·exact h2
 refine ⟨fun x hx => by have := h1 x hx; omega, ?_⟩
 clear hl
 induction l with
 | nil => simp [rowD]
 | cons x t ih =>
  have h2 := ih fun y hy => h1 y (by simp [hy])
  have h3 := h1 x (by simp)
  have e : rowD (x :: t) = 1 :: (enB x ++ (t.map enB).flatten) := rfl
  rw [e]
  unfold rowD at h2
  simp only [List.length_cons, List.length_append, enB_len] at *
  omega
theorem fmakes_any (w : World) (ff fb sb n : Nat) (V : OM) (d : Nat) (T : List Nat) (z : Bool) (given : Nat) (E : List Nd) (U : List Nat) (h : CH w ff fb sb n V d T z given E U) (hd5 : d ≤ 500000000) (s : List UInt8) (hs : s.length < 4294967281) (dir : Bool) :
  Calls Tryz.prog 37 #[Ptr ff, S s, NV dir] w (OpP w fb sb n V d T z given E (makeF n given E s dir)) := by
 have HP := Lib.hid (fpath_any w s hs h.tabs.1)
 have H := Lib.hid h
 have hmm := @run_makeMap Tryz.prog
 obtain ⟨R, hR⟩ : ∃ R, makeF n given E s dir = R := ⟨_, rfl⟩
 have HR := Lib.hid hR
 rw [hR]
 obtain ⟨nv, hnv⟩ : ∃ nv, NV dir = nv := ⟨_, rfl⟩
 have HNV := Lib.hid hnv
 rw [hnv]
 clear h hR hnv
 go_enter Tryz.func37, Tryz.ntmps37
 go_wp2_with (fail)
 refine HP.out.mono ?_
 rintro e w1 ⟨⟨v, rfl, h1⟩, k1⟩
 unfold PathP at h1
 have K1 := Lib.hid k1
 clear k1
 cases hp : WX.pathF s with
 | none =>
  rw [hp] at h1
  have h1 : v = .tuple #[.slice none 0 0, I 160] := h1
  subst h1
  have HE : Hid (R = (160, given, E)) := Lib.hid (by rw [← HR.out]; unfold makeF; rw [hp])
  clear hp
  go_wp2_with (fail)
  go_ret
  rw [HE.out]
  exact OpP.no (H.out.st.same K1.out) (by omega) H.out.sim (K1.out.mono (by simp)) (fun x hx => .inl hx) 160
 | some p =>
  rw [hp] at h1
  obtain ⟨lv, rfl, hl⟩ := h1
  have H1 := Lib.hid (H.out.same K1.out)
  have HGO := Lib.hid (changes_gone H1.out hd5)
  have HL := Lib.hid (And.intro hl hp)
  have hfr : Hid (∀ (w2 : World) (T' : List Nat), Kept T w1 w2 → (∀ x ∈ T', x ∈ T ∨ w1.heap.size ≤ x) → Kept T w w2 ∧ (∀ x ∈ T', x ∈ T ∨ w.heap.size ≤ x)) := Lib.hid (fun w2 T' k ht => ⟨(K1.out.mono (by simp)).trans' k, fun x hx => (ht x hx).imp id (fun h => by have := K1.out.size; omega)⟩)
  have hlen : ∃ lp lc, lv = .slice lp p.length lc := by obtain ⟨a, b, c, _⟩ := hl.at; exact ⟨a, b, c⟩
  obtain ⟨lp, lc, rfl⟩ := hlen
  have hp8 := (WX.path_names hp).1
  have hpI : (p.length : Int) ≤ 8 := by omega
  have HPN := Lib.hid (WX.path_names hp)
  clear hl hp hp8
  go_wp2_with (fail)
  refine HGO.out.mono ?_
  rintro e w2 (⟨rfl, T2, hch, hk2, hT2⟩ | ⟨rfl, hz, T2, hpf, hk2, hT2⟩)
  case inr =>
   have HX := Lib.hid (OpP.gone (n := n) (sb := sb) (d := d) H.out.st.sorted H.out.st.stk.small.2.2.1 hz hpf (by omega) H.out.sim (hfr.out _ _ hk2 hT2).1 (hfr.out _ _ hk2 hT2).2 R)
   clear hz hpf hk2 hT2
   go_wp2_with (fail)
   go_ret
   exact HX.out
  case inl =>
  have H2 := Lib.hid (And.intro hch (And.intro (hfr.out _ _ hk2 hT2) (And.intro hk2 trivial)))
  have HNO : Hid (∀ (W : World) (r : Int), Kept [] w2 W → OpP w fb sb n V d T z given E (r, given, E) (.returned (I r)) W) := Lib.hid (fun W r k => OpP.no (H2.out.1.st.same k) (by omega) H.out.sim (H2.out.2.1.1.trans k (by simp)) H2.out.2.1.2 r)
  clear hch hk2 hT2
  by_cases hpn : p = []
  ·have hp0 : (p.length : Int) = 0 := by rw [hpn]; rfl
   have HE : Hid (R = (162, given, E)) := Lib.hid (by rw [← HR.out]; unfold makeF; rw [HL.out.2]; simp only; rw [if_pos hpn])
   clear hpn
   go_wp2_with (fail)
   go_ret
   rw [HE.out]
   exact HNO.out _ 162 (Kept.refl _ _)
  have hp0 : ((p.length : Int) == 0) = false := by have := List.length_pos_iff.2 hpn; simp; omega
  have hl2 : StrsAt w2 (.slice lp p.length lc) p := (HL.out.1.turn H2.out.2.2.1 (fun x hx => H.out.st.stk.lt x hx)).at
  have HW := Lib.hid (fwithin_any w2 ff sb V given E H2.out.1.fr _ p hl2 HPN.out.1 hpn)
  have HMK : Hid (R = if findF E [] p.dropLast ≠ 0 then (((findF E [] p.dropLast : Nat) : Int), given, E) else if isDirP E p.dropLast = false then (163, given, E) else if (ent E p).isSome = true then (162, given, E) else if (kids E p.dropLast).length = 6 then (165, given, E) else tryF n given E (given + 1) (E ++ [⟨p, given + 2, dir, []⟩])) := Lib.hid (by rw [← HR.out]; unfold makeF; rw [HL.out.2]; simp only; rw [if_neg hpn])
  have HPP := Lib.hid hpn
  clear hpn hl2
  go_wp2_with (fail)
  refine HW.out.mono ?_
  rintro e w3 ⟨⟨v3, rfl, h3⟩, k3⟩
  have K3 := Lib.hid k3
  clear k3
  unfold WithinP at h3
  by_cases hz : findF E [] p.dropLast = 0
  case neg =>
   rw [if_neg hz] at h3
   subst h3
   have hzI : ((findF E [] p.dropLast : Int) != 0) = true := by simp; exact hz
   have HE : Hid (R = (((findF E [] p.dropLast : Nat) : Int), given, E)) := Lib.hid (by rw [HMK.out, if_pos hz])
   clear hz
   go_wp2_with (fail)
   go_ret
   rw [HE.out]
   exact HNO.out _ _ K3.out
  case pos =>
  rw [if_pos hz] at h3
  by_cases hdp : isDirP E p.dropLast = true
  case neg =>
   rw [if_neg hdp] at h3
   subst h3
   have HE : Hid (R = (163, given, E)) := Lib.hid (by rw [HMK.out, if_neg (by simpa using hz), if_pos (by simpa using hdp)])
   clear hz hdp
   go_wp2_with (fail)
   go_ret
   rw [HE.out]
   exact HNO.out _ _ K3.out
  case pos =>
  rw [if_pos hdp] at h3
  obtain ⟨dv, rfl, hens⟩ := h3
  obtain ⟨l, hl⟩ : ∃ l, kids E p.dropLast = l := ⟨_, rfl⟩
  obtain ⟨ln, hln⟩ : ∃ ln, p.getLastD [] = ln := ⟨_, rfl⟩
  have hsl : SortE l := by rw [← hl]; exact sort_kids H.out.wf.paths _
  have hls : l.length ≤ 6 := by rw [← hl]; exact H.out.wf.few _
  have hhas : hasE l ln = (ent E p).isSome := by rw [← hl, has_kids, ← hln, last_snoc HPP.out]
  rw [hl] at hens
  have HEN := Lib.hid (entered_any w3 dv l hens hsl (by omega) ln)
  rw [hhas] at HEN
  have HME : Hid (R = if (ent E p).isSome = true then (162, given, E) else if l.length = 6 then (165, given, E) else tryF n given E (given + 1) (E ++ [⟨p, given + 2, dir, []⟩])) := Lib.hid (by rw [HMK.out, if_neg (by simpa using hz), if_neg (by rw [hdp]; decide), hl])
  have hdv : ∃ dp dc, dv = .slice dp l.length dc := by obtain ⟨a, b, _, c, _⟩ := hens; exact ⟨a, b, c⟩
  obtain ⟨dp, dc, rfl⟩ := hdv
  have HD := Lib.hid (And.intro hz (And.intro hdp (And.intro hl (And.intro hln (And.intro hsl (And.intro hls (And.intro hhas hens)))))))
  rw [hln]
  clear hz hdp hl hln hsl hls hhas hens
  have hlI : (l.length : Int) ≤ 6 := by have := HD.out.2.2.2.2.2.1; omega
  cases hee : (ent E p).isSome with
  | true =>
   rw [hee] at HEN
   have HE : Hid (R = (162, given, E)) := Lib.hid (by rw [HME.out, if_pos hee])
   clear hee
   go_wp2_with (fail)
   refine HEN.out.mono ?_
   rintro e w4 ⟨rfl, k4⟩
   have K4 := Lib.hid k4
   clear k4
   go_wp2_with (fail)
   go_ret
   rw [HE.out]
   exact HNO.out _ _ (K3.out.trans' K4.out)
  | false =>
  rw [hee] at HEN
  go_wp2_with (fail)
  refine HEN.out.mono ?_
  rintro e w4 ⟨rfl, k4⟩
  have K4 := Lib.hid (K3.out.trans' k4)
  have K34 := Lib.hid k4
  clear k4
  by_cases h6 : l.length = 6
  ·have h6b : ((l.length : Int) == 6) = true := by rw [h6]; rfl
   have HE : Hid (R = (165, given, E)) := Lib.hid (by rw [HME.out, if_neg (by rw [hee]; decide), if_pos h6])
   clear h6 hee
   go_wp2_with (fail)
   go_ret
   rw [HE.out]
   exact HNO.out _ _ K4.out
  have h6b : ((l.length : Int) == 6) = false := by simp; omega
  have HE : Hid (R = tryF n given E (given + 1) (E ++ [⟨p, given + 2, dir, []⟩])) := Lib.hid (by rw [HME.out, if_neg (by rw [hee]; decide), if_neg h6])
  have HC4 := Lib.hid (H2.out.1.same K4.out)
  have HG1 := HC4.out.st.stk.rd.get 1 ⟨by decide, by decide⟩
  have hv1 := HC4.out.sim 1
  rw [objF_one] at hv1
  have hgf : getF V 1 = if given = 0 then [] else putN 4 (given + 1) := by unfold getF; rw [hv1]; split <;> rfl
  have hvs : (valM V 1).isSome = decide (given ≠ 0) := by rw [hv1]; by_cases hg0 : given = 0 <;> simp [hg0]
  rw [hgf, hvs] at HG1
  obtain ⟨GB, hGB⟩ : ∃ GB, (if given = 0 then [] else putN 4 (given + 1)) = GB := ⟨_, rfl⟩
  obtain ⟨gb, hgb⟩ : ∃ gb, decide (given ≠ 0) = gb := ⟨_, rfl⟩
  rw [hGB, hgb] at HG1
  have HGB : Hid ((given = 0 ∧ gb = false) ∨ (given ≠ 0 ∧ gb = true ∧ GB = putN 4 (given + 1))) := Lib.hid (by
   by_cases hg0 : given = 0
   ·left; exact ⟨hg0, by rw [← hgb, hg0]; rfl⟩
   ·right; exact ⟨hg0, by rw [← hgb]; simpa using hg0, by rw [← hGB, if_neg hg0]⟩)
  have HG1 := Lib.hid HG1
  have c4 := HC4.out.cell
  have hgv := H.out.gv
  have H6 := Lib.hid (And.intro h6 hee)
  obtain ⟨N1, hN1⟩ : ∃ N1, given + 1 = N1 := ⟨_, rfl⟩
  obtain ⟨N2, hN2⟩ : ∃ N2, given + 2 = N2 := ⟨_, rfl⟩
  obtain ⟨q, hq⟩ : ∃ q, numP E p.dropLast = q := ⟨_, rfl⟩
  have hqb := H.out.wf.numP (isDirP_some HD.out.2.1)
  rw [hq] at hqb
  rw [hq]
  obtain ⟨k1, hk1⟩ : ∃ k1, 64 * q = k1 := ⟨_, rfl⟩
  obtain ⟨k2, hk2⟩ : ∃ k2, 64 * N2 = k2 := ⟨_, rfl⟩
  have e12 : (N1 : Int) + 1 = (N2 : Int) := by omega
  have em1 : (64 : Int) * (q : Int) = (k1 : Int) := by omega
  have em2 : (64 : Int) * (N2 : Int) = (k2 : Int) := by omega
  have hN2I : (N2 : Int) ≤ 16777216 := by omega
  have hqI : (q : Int) ≤ 16777216 := by omega
  have hk1I : (k1 : Int) ≤ 1073741824 := by omega
  have hk2I : (k2 : Int) ≤ 1073741824 := by omega
  have hmost : ((N1 : Int) == 16777216) = false := by simp; omega
  have HNN := Lib.hid (And.intro hN1 (And.intro hN2 (And.intro hq (And.intro hqb (And.intro hk1 hk2)))))
  have hlnl : ln.length ≤ 24 := by
   have h1 := HPN.out.2
   have h2 := last_snoc HPP.out
   refine WX.name_len (List.all_eq_true.1 h1 ln ?_)
   rw [← HD.out.2.2.2.1]
   rw [← h2]
   simp
  have HWI := Lib.hid (fun W (k : Kept [] w3 W) => with_any W (.slice dp l.length dc) l (HD.out.2.2.2.2.2.2.2.same k) HD.out.2.2.2.2.1 (by omega) ln N2 (by rw [HD.out.2.2.2.2.2.2.1]; exact hee))
  obtain ⟨l', hl'⟩ : ∃ l', insE l (ln, N2) = l' := ⟨_, rfl⟩
  rw [hl'] at HWI
  have hrk := row_kids H.out.wf (by omega) p.dropLast (l := l') (fun x hx => by
   rw [← hl'] at hx
   rcases (mem_insE _ _ _).1 hx with rfl | hx
   ·exact .inr ⟨hlnl, by show N2 ≤ 16777216; omega⟩
   ·exact .inl (by rw [HD.out.2.2.1]; exact hx))
  have hl'l : l'.length = l.length + 1 := by rw [← hl', insE_len]
  have HRK := Lib.hid (And.intro hrk (And.intro hl' hl'l))
  have HROW := Lib.hid (fun W v (h : EnsAt W v l') => erow_any W v l' h (by omega) hrk.1)
  obtain ⟨row, hrow⟩ : ∃ row, rowD l' = row := ⟨_, rfl⟩
  rw [hrow] at HROW
  have hrl : row.length ≤ 175 := by rw [← hrow]; have := hrk.2; omega
  have HRO := Lib.hid hrow
  obtain ⟨nb, hnb⟩ : ∃ nb, putN 4 N2 = nb := ⟨_, rfl⟩
  have hnbl : nb.length = 4 := by rw [← hnb]; exact putN_len 4 N2
  have HPUT := Lib.hid (fun W => put_any W N2 4 (by omega) (by omega) (by omega))
  rw [hnb] at HPUT
  have HNB := Lib.hid (And.intro hnb hnbl)
  have HGET : Hid (∀ W, given ≠ 0 → Calls Tryz.prog 79 #[S (putN 4 (given + 1))] W fun e w' => e = .returned (.tuple #[I N1, I 0]) ∧ w' = W) := Lib.hid (fun W _ => by
   have h4 := putN_len 4 (given + 1)
   have h5 : given + 1 < 4294967296 := by omega
   have h6 := getN_num (given + 1) h5
   obtain ⟨pb, hpb⟩ : ∃ pb, putN 4 (given + 1) = pb := ⟨_, rfl⟩
   rw [hpb] at h4 h6 ⊢
   have := get_any W pb (by intro h; rw [h] at h4; cases h4) (by omega)
   rw [h6, hN1] at this
   exact this)
  clear hgf hvs hv1 h6 hee hGB hgb hN1 hN2 hq hqb hk1 hk2 hlnl hl' hrk hl'l hrow hnb hnbl hgv
  go_wp2_with (fail)
  refine HG1.out.mono ?_
  rintro e w5 ⟨rfl, k5⟩
  have K5 := Lib.hid k5
  have c5 := k5.cellOf c4
  clear k5
  go_upto_if 65 with (fail)
  go_cut [16] from 65 to 70 (fun v16 wx => v16 = I N1 ∧ wx = w5)
  case first =>
   rcases HGB.out with ⟨hg0, rfl⟩ | ⟨hg0, rfl, rfl⟩
   ·have h1 : (N1 : Int) = 1 := by have := HNN.out.1; omega
    have H1N := Lib.hid h1
    clear h1
    go_wp2_with (fail)
    go_meet
    exact ⟨by rw [H1N.out], rfl⟩
   ·go_wp2_with (fail)
    refine (HGET.out _ hg0).mono ?_
    rintro e w6 ⟨rfl, rfl⟩
    go_wp2_with (fail)
    go_meet
    exact ⟨rfl, rfl⟩
  case rest =>
  obtain ⟨rfl, rfl⟩ := hcut
  go_wp2_with (fail)
  refine (HPUT.out _).mono ?_
  rintro e w6 ⟨rfl, k6⟩
  have K6 := Lib.hid ((K4.out.trans' K5.out).trans' k6)
  have K36 := Lib.hid ((K34.out.trans' K5.out).trans' k6)
  clear k6
  obtain ⟨mb, hmb⟩ : ∃ mb, w6.heap.size = mb := ⟨_, rfl⟩
  have s0 : SetAt (w6.alloc (.map #[] 0)) mb [] := by rw [← hmb]; exact amap_made w6
  have HS0 := Lib.hid s0
  have HMB := Lib.hid hmb
  have hk0 : Kept [] w6 (w6.alloc (.map #[] 0)) := (Kept.refl [] w6).alloc _
  have HK0 := Lib.hid hk0
  clear s0 hk0
  go_wp2_with (fail)
  clear hmb
  refine (sput_any _ mb [] HS0.out (by simp) 1 ⟨by decide, by decide⟩ nb (by have := HNB.out.2; omega)).mono ?_
  rintro e w7 ⟨rfl, s7, k7⟩
  have K7 := Lib.hid (HK0.out.new1 k7 (by rw [HMB.out]; exact Nat.le_refl _))
  have HS7 := Lib.hid s7
  clear s7 k7
  go_wp2_with (fail)
  refine (HWI.out w7 (K36.out.trans' K7.out)).mono ?_
  rintro e w8 ⟨⟨v8, rfl, h8⟩, k8⟩
  have K8 := Lib.hid (And.intro h8.at k8)
  clear h8 k8
  go_wp2_with (fail)
  refine (HROW.out w8 v8 K8.out.1).mono ?_
  rintro e w9 ⟨rfl, k9⟩
  have K9 := Lib.hid (K8.out.2.trans' k9)
  clear k9
  go_wp2_with (fail)
  refine (sput_any w9 mb (putS [] 1 nb) (HS7.out.same K9.out) (by unfold putS; rw [len_ins]; show ([] : CM).length + 1 < 1000; simp) (k1 : Int) ⟨by omega, by omega⟩ row (by omega)).mono ?_
  rintro e w10 ⟨rfl, s10, k10⟩
  have K10 := Lib.hid (((K7.out.trans' K9.out)).new1 k10 (by have := K7.out.size; rw [HMB.out]; exact Nat.le_refl _))
  have HS10 := Lib.hid s10
  clear s10 k10
  have hk2I2 : (N2 : Int) * 64 = (k2 : Int) := by omega
  have HROWN := Lib.hid (rowN_any dir)
  have hrn := rowN_len dir
  have HFIN : Hid (∀ W (_ : SetAt W mb (putS (putS (putS [] 1 nb) (k1 : Int) row) (k2 : Int) (rowN dir))) (_ : Kept [] w3 W), Calls Tryz.prog 49 #[Ptr ff, .map (some mb)] W (OpP w fb sb n V d T z given E R)) := Lib.hid (fun W hS kW => by
   obtain ⟨hN1, hN2, hq, hqb, hk1, hk2⟩ := HNN.out
   have hm : putS (putS (putS [] 1 nb) (k1 : Int) row) (k2 : Int) (rowN dir) = makeM given E p dir := by
    unfold makeM
    rw [hN2, HNB.out.1, hq, hk1, hk2, HD.out.2.2.1, HD.out.2.2.2.1, HRK.out.2.1, HRO.out]
   have hOK : SetOK (putS (putS (putS [] 1 nb) (k1 : Int) row) (k2 : Int) (rowN dir)) 203 := by
    have := ((SetOK.nil.put 1 nb (by decide) (by decide) (by have := HNB.out.2; omega)).put (k1 : Int) row (by omega) (by omega) (by omega)).put (k2 : Int) (rowN dir) (by omega) (by omega) (by omega)
    exact ⟨this.srt, this.ok, Nat.le_trans this.size (by have := HNB.out.2; omega)⟩
   rw [HE.out]
   have hent : ent E p = none := by have := H6.out.2; cases hx : ent E p with | none => rfl | some x => rw [hx] at this; cases this
   have hkw : Kept [] w2 W := K3.out.trans' kW
   refine does_op (V0 := V) (H2.out.1.same hkw) mb _ hS 203 hOK (by omega) (wf_make H.out.wf HPP.out HPN.out.1 HPN.out.2 HD.out.2.1 hent (by rw [HD.out.2.2.1]; have := HD.out.2.2.2.2.2.1; have := H6.out.1; omega) dir) (fun k => ?_) (Nat.le_refl _) (H2.out.2.1.1.trans hkw (by simp)) (fun x hx => H2.out.2.1.2 x hx) (Nat.le_trans (Nat.le_trans K1.out.size H2.out.2.2.1.size) hkw.size)
   rw [hm]
   exact obj_make H.out.wf HPP.out HD.out.2.1 hent dir k)
  cases dir with
  | true =>
   have hnv2 : nv = .iface 87 (.slice none 0 0) := HNV.out.symm
   subst hnv2
   have HRW := Lib.hid (fun W => (HROWN.out W).1 rfl)
   go_wp2_with (first | (go_invoke; done) | go_invoke)
   refine (HRW.out w10).mono ?_
   rintro e w11 ⟨rfl, k11⟩
   have K11 := Lib.hid k11
   clear k11
   go_wp2_with (fail)
   refine (sput_any w11 mb (putS (putS [] 1 nb) (k1 : Int) row) (HS10.out.same K11.out) (by unfold putS; rw [len_ins, ]; have := len_del (k1 : Int) (insA (delA ([] : CM) 1) 1 (if (1 : Int) = 64 ∧ nb.length = 1 then ⟨1, [], true⟩ else ⟨1, nb, false⟩)); rw [len_ins] at this; have h0 : (delA ([] : CM) 1).length = 0 := rfl; omega) (k2 : Int) ⟨by omega, by omega⟩ (rowN true) (by omega)).mono ?_
   rintro e w12 ⟨rfl, s12, k12⟩
   have K12 := Lib.hid ((K36.out.trans' (K10.out.trans' K11.out)).new k12 (by intro x hx; simp at hx; have := K36.out.size; have := HMB.out; omega))
   have HFN := Lib.hid (HFIN.out w12 s12 K12.out)
   clear s12 k12
   go_wp2_with (fail)
   refine HFN.out.mono ?_
   rintro e w13 hP
   obtain ⟨r, T', rfl, hP2⟩ := hP
   have HPP2 := Lib.hid hP2
   clear hP2
   go_wp2_with (fail)
   go_ret
   exact ⟨r, T', rfl, HPP2.out⟩
  | false =>
   have hnv2 : nv = .iface 78 (.agg #[I 0]) := HNV.out.symm
   subst hnv2
   have HRW := Lib.hid (fun W => (HROWN.out W).2 rfl)
   go_wp2_with (first | (go_invoke; done) | go_invoke)
   refine (HRW.out w10).mono ?_
   rintro e w11 ⟨rfl, k11⟩
   have K11 := Lib.hid k11
   clear k11
   go_wp2_with (fail)
   refine (sput_any w11 mb (putS (putS [] 1 nb) (k1 : Int) row) (HS10.out.same K11.out) (by unfold putS; rw [len_ins, ]; have := len_del (k1 : Int) (insA (delA ([] : CM) 1) 1 (if (1 : Int) = 64 ∧ nb.length = 1 then ⟨1, [], true⟩ else ⟨1, nb, false⟩)); rw [len_ins] at this; have h0 : (delA ([] : CM) 1).length = 0 := rfl; omega) (k2 : Int) ⟨by omega, by omega⟩ (rowN false) (by omega)).mono ?_
   rintro e w12 ⟨rfl, s12, k12⟩
   have K12 := Lib.hid ((K36.out.trans' (K10.out.trans' K11.out)).new k12 (by intro x hx; simp at hx; have := K36.out.size; have := HMB.out; omega))
   have HFN := Lib.hid (HFIN.out w12 s12 K12.out)
   clear s12 k12
   go_wp2_with (fail)
   refine HFN.out.mono ?_
   rintro e w13 hP
   obtain ⟨r, T', rfl, hP2⟩ := hP
   have HPP2 := Lib.hid hP2
   clear hP2
   go_wp2_with (fail)
   go_ret
   exact ⟨r, T', rfl, HPP2.out⟩
section
variable (w : World) (ff fb sb n : Nat) (V : OM) (d : Nat) (T : List Nat) (z : Bool) (given : Nat) (E : List Nd) (U : List Nat) (h : CH w ff fb sb n V d T z given E U) (hd5 : d ≤ 500000000) (s : List UInt8) (hs : s.length < 4294967281)
include h hd5 hs
theorem make_any : Calls Tryz.prog 12 #[Ptr ff, S s] w (OpP w fb sb n V d T z given E (makeF n given E s false)) := by
 have HM := Lib.hid (fmakes_any w ff fb sb n V d T z given E U h hd5 s hs false)
 obtain ⟨R, hR⟩ : ∃ R, makeF n given E s false = R := ⟨_, rfl⟩
 rw [hR] at HM ⊢
 clear h hR hs
 go_enter Tryz.func12, Tryz.ntmps12
 go_wp2_with (fail)
 refine HM.out.mono ?_
 rintro e w1 ⟨r, T', rfl, hP⟩
 have HP := Lib.hid hP
 clear hP
 go_wp2_with (fail)
 go_ret
 exact ⟨r, T', rfl, HP.out⟩
theorem makeDir_any : Calls Tryz.prog 14 #[Ptr ff, S s] w (OpP w fb sb n V d T z given E (makeF n given E s true)) := by
 have HM := Lib.hid (fmakes_any w ff fb sb n V d T z given E U h hd5 s hs true)
 obtain ⟨R, hR⟩ : ∃ R, makeF n given E s true = R := ⟨_, rfl⟩
 rw [hR] at HM ⊢
 clear h hR hs
 go_enter Tryz.func14, Tryz.ntmps14
 go_wp2_with (fail)
 refine HM.out.mono ?_
 rintro e w1 ⟨r, T', rfl, hP⟩
 have HP := Lib.hid hP
 clear hP
 go_wp2_with (fail)
 go_ret
 exact ⟨r, T', rfl, HP.out⟩
theorem changes_any : Calls Tryz.prog 44 #[Ptr ff, S s] w fun e w' =>
  (WX.pathF s = none ∧ e = .returned (I 160) ∧ Kept [] w w') ∨ (∃ p, WX.pathF s = some p ∧ ((e = .returned (I 0) ∧ ∃ T', CH w' ff fb sb n V (d + n + 1) T' z given E U ∧ Kept T w w' ∧ (∀ x ∈ T', x ∈ T ∨ w.heap.size ≤ x)) ∨ (e = .returned (I 2) ∧ z = false ∧ ∃ T', PF w' fb n V V (d + n + 1) T' ∧ Kept T w w' ∧ (∀ x ∈ T', x ∈ T ∨ w.heap.size ≤ x)))) := by
 have HP := Lib.hid (fpath_any w s hs h.tabs.1)
 have H := Lib.hid h
 clear h
 go_enter Tryz.func44, Tryz.ntmps44
 go_wp2_with (fail)
 refine HP.out.mono ?_
 rintro e w1 ⟨⟨v, rfl, h1⟩, k1⟩
 unfold PathP at h1
 have K1 := Lib.hid k1
 clear k1
 cases hp : WX.pathF s with
 | none =>
  rw [hp] at h1
  have h1 : v = .tuple #[.slice none 0 0, I 160] := h1
  subst h1
  have HPH := Lib.hid hp
  clear hp
  go_wp2_with (fail)
  go_ret
  exact .inl ⟨HPH.out, rfl, K1.out⟩
 | some p =>
  rw [hp] at h1
  obtain ⟨lv, rfl, hl⟩ := h1
  have HGO := Lib.hid (changes_gone (H.out.same K1.out) hd5)
  have HPH := Lib.hid hp
  clear hp hl
  go_wp2_with (fail)
  refine HGO.out.mono ?_
  rintro e w2 (⟨rfl, T2, hch, hk2, hT2⟩ | ⟨rfl, hz, T2, hpf, hk2, hT2⟩)
  ·have HX := Lib.hid (And.intro hch (And.intro ((K1.out.mono (by simp)).trans' hk2) (fun x hx => (hT2 x hx).imp id (fun h => by have := K1.out.size; omega) : ∀ x ∈ T2, x ∈ T ∨ w.heap.size ≤ x)))
   clear hch hk2 hT2
   go_wp2_with (fail)
   go_ret
   exact .inr ⟨p, HPH.out, .inl ⟨rfl, T2, HX.out⟩⟩
  ·have HX := Lib.hid (And.intro hz (And.intro hpf (And.intro ((K1.out.mono (by simp)).trans' hk2) (fun x hx => (hT2 x hx).imp id (fun h => by have := K1.out.size; omega) : ∀ x ∈ T2, x ∈ T ∨ w.heap.size ≤ x))))
   clear hz hpf hk2 hT2
   go_wp2_with (fail)
   go_ret
   exact .inr ⟨p, HPH.out, .inr ⟨rfl, HX.out.1, T2, HX.out.2⟩⟩
end
def setE (E : List Nd) (x : Nd) : List Nd := E.filter (fun y => decide (y.path ≠ x.path)) ++ [x]
theorem mem_setE {E : List Nd} {x y : Nd} : y ∈ setE E x ↔ y = x ∨ (y ∈ E ∧ y.path ≠ x.path) := by
 unfold setE
 rw [List.mem_append, List.mem_filter, List.mem_singleton]
 constructor
 ·rintro (⟨h1, h2⟩ | h)
  ·exact .inr ⟨h1, by simpa using h2⟩
  ·exact .inl h
 ·rintro (h | ⟨h1, h2⟩)
  ·exact .inr h
  ·exact .inl ⟨h1, by simpa using h2⟩
section
variable {given : Nat} {E : List Nd} (h : WF given E) {x x' : Nd} (hx : x ∈ E) (hp : x'.path = x.path) (hn : x'.num = x.num) (hd : x'.dir = x.dir)
include h hx hp hn hd
theorem distP_set : DistP (setE E x') := by
 refine List.pairwise_append.2 ⟨List.Pairwise.filter _ h.paths, by simp, fun a ha b hb => ?_⟩
 rw [List.mem_singleton.1 hb]
 have := (List.mem_filter.1 ha).2
 simpa using this
theorem kids_set (q : List Nm) : kids (setE E x') q = kids E q := by
 refine kids_is (distP_set h hx hp hn hd) (sort_kids h.paths q) fun k => ?_
 rw [mem_kids]
 constructor
 ·rintro ⟨y, hy, h1, h2⟩
  by_cases he : y.path = x'.path
  ·have : y = x := distP_eq h.paths hy hx (by rw [he, hp])
   subst this
   exact ⟨x', mem_setE.2 (.inl rfl), by rw [hp, h1], by rw [hn, h2]⟩
  ·exact ⟨y, mem_setE.2 (.inr ⟨hy, he⟩), h1, h2⟩
 ·rintro ⟨y, hy, h1, h2⟩
  rcases mem_setE.1 hy with rfl | ⟨h3, _⟩
  ·exact ⟨x, hx, by rw [← hp, h1], by rw [← hn, h2]⟩
  ·exact ⟨y, h3, h1, h2⟩
theorem wf_set (hl : x'.data.length ≤ 4096) (hdd : x'.dir = true → x'.data = []) : WF given (setE E x') := by
 have hall : ∀ {P : Nd → Prop}, (∀ y ∈ E, P y) → P x' → ∀ y ∈ setE E x', P y := fun h1 h2 y hy => by
  rcases mem_setE.1 hy with rfl | ⟨h3, _⟩
  ·exact h2
  ·exact h1 y h3
 refine ⟨distP_set h hx hp hn hd, ?_, hall h.num (by rw [hn]; exact h.num x hx), hall h.form (by rw [hp]; exact h.form x hx), ?_, fun q => by rw [kids_set h hx hp hn hd]; exact h.few q, hall h.data ⟨hl, hdd⟩⟩
 ·refine List.pairwise_append.2 ⟨List.Pairwise.filter _ h.nums, by simp, fun a ha b hb => ?_⟩
  rw [List.mem_singleton.1 hb, hn]
  obtain ⟨h1, h2⟩ := List.mem_filter.1 ha
  intro e
  have := num_eq h.nums h1 hx e
  rw [this] at h2
  simp [hp] at h2
 ·have hup : ∀ y ∈ E, y.path.dropLast = [] ∨ ∃ z ∈ setE E x', z.path = y.path.dropLast ∧ z.dir = true := fun y hy => by
   refine (h.up y hy).imp id fun ⟨z, hz, h1, h2⟩ => ?_
   by_cases he : z.path = x'.path
   ·have : z = x := distP_eq h.paths hz hx (by rw [he, hp])
    subst this
    exact ⟨x', mem_setE.2 (.inl rfl), by rw [hp, h1], by rw [hd, h2]⟩
   ·exact ⟨z, mem_setE.2 (.inr ⟨hz, he⟩), h1, h2⟩
  refine hall hup ?_
  rw [hp]
  exact hup x hx
theorem byNum_set (k : Nat) : byNum (setE E x') k = if k = x.num then some x' else byNum E k := by
 have hd2 : (setE E x').Pairwise (fun a b => a.num ≠ b.num) := by
  refine List.pairwise_append.2 ⟨List.Pairwise.filter _ h.nums, by simp, fun a ha b hb => ?_⟩
  rw [List.mem_singleton.1 hb, hn]
  obtain ⟨h1, h2⟩ := List.mem_filter.1 ha
  intro e
  have := num_eq h.nums h1 hx e
  rw [this] at h2
  simp [hp] at h2
 by_cases hk : k = x.num
 ·rw [if_pos hk, hk, ← hn]
  exact byNum_of hd2 (mem_setE.2 (.inl rfl))
 ·rw [if_neg hk]
  cases hb : byNum E k with
  | none =>
   cases hc : byNum (setE E x') k with
   | none => rfl
   | some y =>
    obtain ⟨h1, h2⟩ := byNum_mem hc
    rcases mem_setE.1 h1 with rfl | ⟨h3, _⟩
    ·exact absurd (by rw [← h2, hn]) hk
    ·exact absurd h2 (byNum_none hb y h3)
  | some y =>
   obtain ⟨h1, h2⟩ := byNum_mem hb
   have hne : y.path ≠ x'.path := fun e => by
    have := distP_eq h.paths h1 hx (by rw [e, hp])
    rw [this] at h2
    exact hk h2.symm
   rw [← h2]
   exact byNum_of hd2 (mem_setE.2 (.inr ⟨h1, hne⟩))
theorem obj_set (k : Int) : objF given (setE E x') k = if 64 * (x.num : Int) ≤ k ∧ k < 64 * (x.num : Int) + 64 then (if k = 64 * (x.num : Int) then some (if x.dir then rowD (kids E x.path) else rowF x'.data.length) else if 128 * (k.toNat % 64 - 1) < x'.data.length then some (chunkF x'.data (k.toNat % 64 - 1)) else none) else objF given E k := by
 have hnx := h.num x hx
 rcases key_cases k with rfl | rfl | ⟨m, r, hm, hr, rfl⟩ | ⟨k1, k2, k3⟩
 ·rw [if_neg (by omega), objF_one, objF_one]
 ·rw [if_neg (by omega), objF_root, objF_root, kids_set h hx hp hn hd]
 ·rw [objF_at hr hm, byNum_set h hx hp hn hd, objF_at hr hm]
  by_cases hmx : m = x.num
  ·rw [if_pos hmx, if_pos (by omega)]
   simp only
   have hrm : ((64 * m + r : Nat) : Int).toNat % 64 = r := by omega
   rw [hrm]
   by_cases hr0 : r = 0
   ·rw [if_pos hr0, if_pos (by omega)]
    unfold rowX
    rw [hd, kids_set h hx hp hn hd, hp]
   ·have hk1 : ¬ ((64 * m + r : Nat) : Int) = 64 * (x.num : Int) := by omega
    rw [if_neg hr0, if_neg hk1]
  ·rw [if_neg hmx, if_neg (by omega)]
   cases byNum E m with
   | none => rfl
   | some y =>
    simp only
    unfold rowX
    rw [kids_set h hx hp hn hd]
 ·rw [objF_rest k1 k2 k3, objF_rest k1 k2 k3, if_neg (by omega)]
end
def wrB (D : List UInt8) (a : Nat) (t : List UInt8) : List UInt8 := D.take a ++ t ++ D.drop (a + t.length)
theorem wrB_len (D t : List UInt8) (a : Nat) (h : a ≤ D.length) : (wrB D a t).length = max D.length (a + t.length) := by
 unfold wrB
 rw [List.length_append, List.length_append, List.length_take, List.length_drop]
 omega
theorem wrB_at (D t : List UInt8) (a j : Nat) (h : a ≤ D.length) : (wrB D a t)[j]? = if j < a then D[j]? else if j < a + t.length then t[j - a]? else D[j]? := by
 unfold wrB
 rw [List.append_assoc, List.getElem?_append, List.length_take, Nat.min_eq_left h]
 by_cases h1 : j < a
 ·rw [if_pos h1, if_pos h1, List.getElem?_take_of_lt h1]
 ·rw [if_neg h1, if_neg h1, List.getElem?_append]
  by_cases h2 : j < a + t.length
  ·rw [if_pos (by omega), if_pos h2]
  ·rw [if_neg (by omega), if_neg h2, List.getElem?_drop, show a + t.length + (j - a - t.length) = j by omega]
theorem chunk_at (D : List UInt8) (i j : Nat) : (chunkF D i)[j]? = if j < 128 then D[128 * i + j]? else none := by
 unfold chunkF
 rw [List.getElem?_take]
 by_cases h : j < 128
 ·rw [if_pos h, if_pos h, List.getElem?_drop]
 ·rw [if_neg h, if_neg h]
def chunkO (D : List UInt8) (i : Nat) : Option (List UInt8) := if 128 * i < D.length then some (chunkF D i) else none
theorem chunk_step (D s : List UInt8) (a m n : Nat) (ha : a ≤ D.length) (hm : m + n ≤ s.length) (hn : 1 ≤ n) (hfit : (a + m) % 128 + n ≤ 128) (hst : m = 0 ∨ (a + m) % 128 = 0) (hend : m + n = s.length ∨ (a + m) % 128 + n = 128) :
  let i := (a + m) / 128
  let o := (a + m) % 128
  let old := chunkF D i
  old.take o ++ (s.drop m).take n ++ old.drop (o + n) = chunkF (wrB D a (s.take (m + n))) i := by
 intro i o old
 have hio : 128 * i + o = a + m := by show 128 * ((a + m) / 128) + (a + m) % 128 = a + m; omega
 have hts : (s.take (m + n)).length = m + n := by rw [List.length_take]; omega
 have hol : old.length = min 128 (D.length - 128 * i) := chunk_len D i
 have hlow : o ≤ old.length := by
  rw [hol]
  rcases hst with h | h
  ·subst h; omega
  ·omega
 have htl : (old.take o).length = o := by rw [List.length_take]; omega
 have hsl : ((s.drop m).take n).length = n := by rw [List.length_take, List.length_drop]; omega
 apply List.ext_getElem?
 intro j
 rw [chunk_at, List.append_assoc, List.getElem?_append, htl]
 by_cases h1 : j < o
 ·rw [if_pos h1, if_pos (by omega), List.getElem?_take_of_lt h1, chunk_at, if_pos (by omega), wrB_at _ _ _ _ ha, hts]
  rcases hst with h | h
  ·rw [if_pos (by omega)]
  ·omega
 ·rw [if_neg h1, List.getElem?_append, hsl]
  by_cases h2 : j < o + n
  ·rw [if_pos (by omega), if_pos (by omega), List.getElem?_take_of_lt (by omega), List.getElem?_drop, wrB_at _ _ _ _ ha, hts, if_neg (by omega), if_pos (by omega), List.getElem?_take_of_lt (by omega)]
   congr 1
   omega
  ·rw [if_neg (by omega), List.getElem?_drop, show o + n + (j - o - n) = j by omega, chunk_at]
   by_cases h3 : j < 128
   ·rw [if_pos h3, if_pos h3, wrB_at _ _ _ _ ha, hts, if_neg (by omega), if_neg (by omega)]
   ·rw [if_neg h3, if_neg h3]
theorem chunk_same (D s : List UInt8) (a m n i : Nat) (ha : a ≤ D.length) (hm : m + n ≤ s.length) (hfit : (a + m) % 128 + n ≤ 128) (hi : i ≠ (a + m) / 128) (hn : 1 ≤ n) :
  chunkO (wrB D a (s.take (m + n))) i = chunkO (wrB D a (s.take m)) i := by
 have hts : (s.take (m + n)).length = m + n := by rw [List.length_take]; omega
 have htm : (s.take m).length = m := by rw [List.length_take]; omega
 have hl1 := wrB_len D (s.take (m + n)) a ha
 have hl2 := wrB_len D (s.take m) a ha
 rw [hts] at hl1
 rw [htm] at hl2
 unfold chunkO
 have hc : 128 * i < (wrB D a (s.take (m + n))).length ↔ 128 * i < (wrB D a (s.take m)).length := by rw [hl1, hl2]; omega
 by_cases h : 128 * i < (wrB D a (s.take m)).length
 ·rw [if_pos (hc.2 h), if_pos h]
  congr 1
  apply List.ext_getElem?
  intro j
  rw [chunk_at, chunk_at]
  by_cases hj : j < 128
  ·rw [if_pos hj, if_pos hj, wrB_at _ _ _ _ ha, wrB_at _ _ _ _ ha, hts, htm]
   by_cases h1 : 128 * i + j < a
   ·rw [if_pos h1, if_pos h1]
   ·rw [if_neg h1, if_neg h1]
    by_cases h2 : 128 * i + j < a + m
    ·rw [if_pos (by omega), if_pos h2, List.getElem?_take_of_lt (by omega), List.getElem?_take_of_lt (by omega)]
    ·rw [if_neg h2, if_neg (by omega)]
  ·rw [if_neg hj, if_neg hj]
 ·rw [if_neg (fun h2 => h (hc.1 h2)), if_neg h]
end Go.Proofs.YteplbljjlbdhaaaGreatDoor
