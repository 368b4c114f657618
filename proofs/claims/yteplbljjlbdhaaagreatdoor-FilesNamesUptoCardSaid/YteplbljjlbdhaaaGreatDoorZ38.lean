/- Walks and lemmas on the program of this seat, used by its statements; each theorem bears its own conditions. -/
import Derived.Test.YteplbljjlbdhaaaGreatDoorZ37
namespace Go.Proofs.YteplbljjlbdhaaaGreatDoor
open Go.RowKit
set_option linter.unusedVariables false
set_option linter.unusedSimpArgs false
set_option linter.unusedSectionVars false
set_option maxHeartbeats 16000000
set_option maxRecDepth 100000
def remE (E : List Nd) (p : List Nm) : List Nd := E.filter fun y => decide (y.path ≠ p)
theorem mem_remE {E : List Nd} {p : List Nm} {y : Nd} : y ∈ remE E p ↔ y ∈ E ∧ y.path ≠ p := by
 unfold remE
 rw [List.mem_filter]
 simp
theorem distP_rem {E : List Nd} (h : DistP E) (p : List Nm) : DistP (remE E p) := List.Pairwise.filter _ h
theorem mem_delE {l : List En} {t : Nm} {q : En} : q ∈ delE l t ↔ q ∈ l ∧ q.1 ≠ t := by
 unfold delE
 rw [List.mem_filter]
 simp
theorem sort_delE {l : List En} (h : SortE l) (t : Nm) : SortE (delE l t) := List.Pairwise.filter _ h
theorem snoc_iff {p : List Nm} (hp : p ≠ []) (q : List Nm) (t : Nm) : p = q ++ [t] ↔ p.dropLast = q ∧ p.getLastD [] = t := by
 constructor
 ·rintro rfl
  rw [List.getLastD_eq_getLast?]
  simp
 ·rintro ⟨rfl, rfl⟩
  exact (last_snoc hp).symm
theorem kids_file {given : Nat} {E : List Nd} (h : WF given E) {x : Nd} (hx : x ∈ E) (hd : x.dir = false) : kids E x.path = [] := by
 refine List.eq_nil_iff_forall_not_mem.2 fun q hq => ?_
 obtain ⟨y, hy, h1, _⟩ := mem_kids.1 hq
 rcases h.up y hy with h2 | ⟨z, hz, h2, h3⟩
 ·rw [h1] at h2; simp at h2; exact (h.form x hx).1 h2
 ·rw [h1] at h2
  simp at h2
  have := distP_eq h.paths hz hx h2
  rw [this, hd] at h3
  cases h3
section
variable {given : Nat} {E : List Nd} (h : WF given E) {x : Nd} (hx : x ∈ E)
include h hx
theorem kids_rem (q : List Nm) : kids (remE E x.path) q = if x.path.dropLast = q then delE (kids E q) (x.path.getLastD []) else kids E q := by
 have hp := (h.form x hx).1
 refine kids_is (distP_rem h.paths _) (by split; exact sort_delE (sort_kids h.paths _) _; exact sort_kids h.paths _) fun k => ?_
 have e : k ∈ (if x.path.dropLast = q then delE (kids E q) (x.path.getLastD []) else kids E q) ↔ k ∈ kids E q ∧ x.path ≠ q ++ [k.1] := by
  rw [Ne, snoc_iff hp]
  by_cases hq : x.path.dropLast = q
  ·rw [if_pos hq, mem_delE]
   constructor
   ·rintro ⟨a, b⟩; exact ⟨a, fun c => b c.2.symm⟩
   ·rintro ⟨a, b⟩; exact ⟨a, fun c => b ⟨hq, c.symm⟩⟩
  ·rw [if_neg hq]
   exact ⟨fun a => ⟨a, fun c => hq c.1⟩, fun a => a.1⟩
 rw [e, mem_kids]
 constructor
 ·rintro ⟨⟨y, hy, h1, h2⟩, h3⟩
  exact ⟨y, mem_remE.2 ⟨hy, fun e => h3 (by rw [← e, h1])⟩, h1, h2⟩
 ·rintro ⟨y, hy, h1, h2⟩
  obtain ⟨a, b⟩ := mem_remE.1 hy
  exact ⟨⟨y, a, h1, h2⟩, fun e => b (by rw [h1, e])⟩
theorem wf_rem (hk : kids E x.path = []) : WF given (remE E x.path) := by
 have hall : ∀ {P : Nd → Prop}, (∀ y ∈ E, P y) → ∀ y ∈ remE E x.path, P y := fun h1 y hy => h1 y (mem_remE.1 hy).1
 refine ⟨distP_rem h.paths _, List.Pairwise.filter _ h.nums, hall h.num, hall h.form, fun y hy => ?_, fun q => ?_, hall h.data⟩
 ·obtain ⟨a, b⟩ := mem_remE.1 hy
  refine (h.up y a).imp id fun ⟨z, hz, h1, h2⟩ => ⟨z, mem_remE.2 ⟨hz, fun e => ?_⟩, h1, h2⟩
  have : (y.path.getLastD [], y.num) ∈ kids E x.path := by
   rw [mem_kids]
   exact ⟨y, a, by rw [← e, h1]; exact (last_snoc (h.form y a).1).symm, rfl⟩
  rw [hk] at this
  cases this
 ·rw [kids_rem h hx]
  split
  ·refine Nat.le_trans ?_ (h.few q)
   exact List.length_filter_le _ _
  ·exact h.few q
theorem byNum_rem (k : Nat) : byNum (remE E x.path) k = if k = x.num then none else byNum E k := by
 by_cases hk : k = x.num
 ·rw [if_pos hk]
  cases hb : byNum (remE E x.path) k with
  | none => rfl
  | some y =>
   obtain ⟨h1, h2⟩ := byNum_mem hb
   obtain ⟨a, b⟩ := mem_remE.1 h1
   exact absurd (by rw [num_eq h.nums a hx (by rw [h2, hk])]) b
 ·rw [if_neg hk]
  cases hb : byNum E k with
  | none =>
   cases hc : byNum (remE E x.path) k with
   | none => rfl
   | some y =>
    obtain ⟨h1, h2⟩ := byNum_mem hc
    exact absurd h2 (byNum_none hb y (mem_remE.1 h1).1)
  | some y =>
   obtain ⟨h1, h2⟩ := byNum_mem hb
   have hne : y.path ≠ x.path := fun e => by
    have := distP_eq h.paths h1 hx e
    rw [this] at h2
    exact hk h2.symm
   rw [← h2]
   exact byNum_of (List.Pairwise.filter _ h.nums) (mem_remE.2 ⟨h1, hne⟩)
theorem up_num : numP E x.path.dropLast ≠ x.num := by
 have hp := (h.form x hx).1
 by_cases h0 : x.path.dropLast = []
 ·rw [h0, numP_root]; have := h.num x hx; omega
 ·rcases h.up x hx with h1 | ⟨y, hy, h1, _⟩
  ·exact absurd h1 h0
  ·have := ent_of h.paths hy
   rw [h1] at this
   rw [numP_of this h0]
   intro e
   have := num_eq h.nums hy hx e
   rw [this] at h1
   have h2 := congrArg List.length h1
   rw [List.length_dropLast] at h2
   have := List.length_pos_iff.2 hp
   omega
theorem up_dir : isDirP E x.path.dropLast = true := by
 unfold isDirP
 by_cases h0 : x.path.dropLast = []
 ·rw [decide_eq_true h0]; rfl
 ·rcases h.up x hx with h1 | ⟨y, hy, h1, h2⟩
  ·exact absurd h1 h0
  ·have := ent_of h.paths hy
   rw [h1] at this
   rw [this]
   simp [h2]
theorem obj_rem (k : Int) : objF given (remE E x.path) k = if k = ((64 * numP E x.path.dropLast : Nat) : Int) then (if k = 64 ∧ (rowD (delE (kids E x.path.dropLast) (x.path.getLastD []))).length = 1 then none else some (rowD (delE (kids E x.path.dropLast) (x.path.getLastD [])))) else if 64 * (x.num : Int) ≤ k ∧ k < 64 * (x.num : Int) + 64 then none else objF given E k := by
 have hp := (h.form x hx).1
 have hnx := h.num x hx
 have hun := up_num h hx
 have hud := up_dir h hx
 have hnp := h.numP (isDirP_some hud)
 rcases key_cases k with rfl | rfl | ⟨m, r, hm, hr, rfl⟩ | ⟨k1, k2, k3⟩
 ·rw [if_neg (by omega), if_neg (by omega), objF_one, objF_one]
 ·rw [objF_root, kids_rem h hx]
  by_cases h0 : x.path.dropLast = []
  ·have hnum : (64 : Int) = ((64 * numP E x.path.dropLast : Nat) : Int) := by rw [h0]; rfl
   rw [if_pos h0, if_pos hnum, h0]
   by_cases hz : delE (kids E []) (x.path.getLastD []) = []
   ·rw [if_neg (by rw [hz]; simp), if_pos ⟨rfl, (rowD_one _).2 hz⟩]
   ·rw [if_pos hz, if_neg (fun hh => hz ((rowD_one _).1 hh.2))]
  ·have h2 : numP E x.path.dropLast ≠ 1 := by
    obtain ⟨y, hy, _⟩ := isDirP_mem hud h0
    rw [numP_of hy h0]
    have := h.num y (ent_mem hy).1
    omega
   have hnum : ¬ (64 : Int) = ((64 * numP E x.path.dropLast : Nat) : Int) := by omega
   have hnn : ¬ (64 * (x.num : Int) ≤ 64 ∧ (64 : Int) < 64 * (x.num : Int) + 64) := by omega
   rw [if_neg h0, if_neg hnum, if_neg hnn, objF_root]
 ·rw [objF_at hr hm, byNum_rem h hx, objF_at hr hm]
  by_cases hmx : m = x.num
  ·rw [if_pos hmx, if_neg (by omega), if_pos (by omega)]
  ·rw [if_neg hmx]
   have hne : ¬ (64 * (x.num : Int) ≤ ((64 * m + r : Nat) : Int) ∧ ((64 * m + r : Nat) : Int) < 64 * (x.num : Int) + 64) := by omega
   rw [if_neg hne]
   cases hb : byNum E m with
   | none =>
    simp only
    rw [if_neg]
    intro e
    have hmn : m = numP E x.path.dropLast := by omega
    by_cases h0 : x.path.dropLast = []
    ·rw [h0] at hmn; rw [numP_root] at hmn; omega
    ·obtain ⟨y, hy, _⟩ := isDirP_mem hud h0
     rw [numP_of hy h0] at hmn
     exact byNum_none hb y (ent_mem hy).1 hmn.symm
   | some y =>
    obtain ⟨y1, y2⟩ := byNum_mem hb
    simp only
    by_cases hy : y.path = x.path.dropLast
    ·have he := ent_of h.paths y1
     have hyn : numP E x.path.dropLast = m := by
      rw [hy] at he
      rw [numP_of he (by rw [← hy]; exact (h.form y y1).1), y2]
     have hyd : y.dir = true := by
      rw [hy] at he
      rw [← isDirP_of h he]
      exact hud
     by_cases hr0 : r = 0
     ·subst hr0
      rw [if_pos rfl, hyn, if_pos (by simp), if_neg (by rintro ⟨h, _⟩; omega)]
      unfold rowX
      rw [if_pos hyd, kids_rem h hx, if_pos hy.symm, hy]
     ·have hk1 : ¬ ((64 * m + r : Nat) : Int) = ((64 * m : Nat) : Int) := by omega
      rw [if_neg hr0, hyn, if_neg hk1, if_neg hr0]
    ·have hyn : ¬ ((64 * m + r : Nat) : Int) = ((64 * numP E x.path.dropLast : Nat) : Int) := by
      intro e
      have hmn : m = numP E x.path.dropLast := by omega
      by_cases h0 : x.path.dropLast = []
      ·rw [h0, numP_root] at hmn; omega
      ·obtain ⟨z, hz, _⟩ := isDirP_mem hud h0
       rw [numP_of hz h0] at hmn
       have := num_eq h.nums y1 (ent_mem hz).1 (by rw [y2, hmn])
       rw [this] at hy
       exact hy (ent_mem hz).2
     rw [if_neg hyn]
     have hrx : rowX (remE E x.path) y = rowX E y := by
      have hy2 : ¬ x.path.dropLast = y.path := fun e => hy e.symm
      unfold rowX
      rw [kids_rem h hx, if_neg hy2]
     rw [hrx]
 ·rw [objF_rest k1 k2 k3, objF_rest k1 k2 k3]
  have : ¬ k = ((64 * numP E x.path.dropLast : Nat) : Int) := by omega
  rw [if_neg this, if_neg (by omega)]
end
def removeF (n given : Nat) (E : List Nd) (s : List UInt8) : Int × Nat × List Nd := match WX.pathF s with
 | none => (160, given, E)
 | some p => if p = [] then (164, given, E) else if findF E [] p ≠ 0 then (((findF E [] p : Nat) : Int), given, E) else if kids E p ≠ [] then (164, given, E) else tryF n given E given (remE E p)
theorem findF_front (E : List Nd) : ∀ (a so b : List Nm), findF E so (a ++ b) = 0 → findF E so a = 0
 | [], so, b, _ => rfl
 | n :: a, so, b, h => by
  rw [List.cons_append] at h
  by_cases h1 : isDirP E so = false
  ·rw [findF_not h1] at h; cases h
  ·have h1 : isDirP E so = true := by simpa using h1
   cases h2 : (ent E (so ++ [n])).isSome with
   | false => rw [findF_none h1 h2] at h; cases h
   | true =>
    rw [findF_snoc_ok h1 h2] at h ⊢
    exact findF_front E a _ b h
theorem findF_up {E : List Nd} {p : List Nm} (hp : p ≠ []) (h : findF E [] p = 0) : findF E [] p.dropLast = 0 := by
 refine findF_front E p.dropLast [] [p.getLastD []] ?_
 rw [last_snoc hp]
 exact h
theorem rem_beh {given : Nat} {E : List Nd} (h : WF given E) {x : Nd} (hx : x ∈ E) {M : CM} (hM : SortedA M) (hb : ∀ k, behS M (objF given E) k = cutK given E x.num (chunkO []) k) (k : Int) :
  objF given (remE E x.path) k = behS (putS (dropS M ((64 * x.num : Nat) : Int)) ((64 * numP E x.path.dropLast : Nat) : Int) (rowD (delE (kids E x.path.dropLast) (x.path.getLastD [])))) (objF given E) k := by
 rw [behS_put (dropS_srt hM _), behS_drop hM, hb, obj_rem h hx]
 by_cases h1 : k = ((64 * numP E x.path.dropLast : Nat) : Int)
 ·rw [if_pos h1, if_pos h1, ← h1]
 ·rw [if_neg h1, if_neg h1]
  by_cases h2 : k = ((64 * x.num : Nat) : Int)
  ·rw [if_pos h2, if_pos (by omega)]
  ·rw [if_neg h2]
   unfold cutK
   by_cases h3 : 64 * (x.num : Int) < k ∧ k < 64 * (x.num : Int) + 64
   ·rw [if_pos h3, if_pos (by omega)]
    unfold chunkO
    rw [if_neg (by simp)]
   ·rw [if_neg h3, if_neg (by omega)]
theorem fremove_any (w : World) (ff fb sb n : Nat) (V : OM) (d : Nat) (T : List Nat) (z : Bool) (given : Nat) (E : List Nd) (U : List Nat) (h : CH w ff fb sb n V d T z given E U) (hd5 : d ≤ 500000000) (s : List UInt8) (hs : s.length < 4294967281) :
  Calls Tryz.prog 21 #[Ptr ff, S s] w (OpP w fb sb n V d T z given E (removeF n given E s)) := by
 have HC := Lib.hid (changes_any w ff fb sb n V d T z given E U h hd5 s hs)
 have H := Lib.hid h
 have hmm := @run_makeMap Tryz.prog
 obtain ⟨R, hR⟩ : ∃ R, removeF n given E s = R := ⟨_, rfl⟩
 have HR := Lib.hid hR
 rw [hR]
 clear h hR
 go_enter Tryz.func21, Tryz.ntmps21
 go_wp2_with (fail)
 refine HC.out.mono ?_
 rintro e w1 (⟨hp, rfl, k1⟩ | ⟨p, hp, ⟨rfl, T1, hch, hk1, hT1⟩ | ⟨rfl, hz, T1, hpf, hk1, hT1⟩⟩)
 ·have HE : Hid (R = (160, given, E)) := Lib.hid (by rw [← HR.out]; unfold removeF; rw [hp])
  have K1 := Lib.hid k1
  clear hp k1
  go_wp2_with (fail)
  go_ret
  rw [HE.out]
  exact OpP.no (H.out.st.same K1.out) (by omega) H.out.sim (K1.out.mono (by simp)) (fun x hx => .inl hx) 160
 ·have H1 := Lib.hid (And.intro hch (And.intro hk1 hT1))
  have HNO : Hid (∀ (W : World) (r : Int), Kept [] w1 W → OpP w fb sb n V d T z given E (r, given, E) (.returned (I r)) W) := Lib.hid (fun W r k => OpP.no (H1.out.1.st.same k) (by omega) H.out.sim (H1.out.2.1.trans k (by simp)) H1.out.2.2 r)
  have HP := Lib.hid (fpath_any w1 s hs hch.tabs.1)
  have HRR : Hid (R = if p = [] then (164, given, E) else if findF E [] p ≠ 0 then (((findF E [] p : Nat) : Int), given, E) else if kids E p ≠ [] then (164, given, E) else tryF n given E given (remE E p)) := Lib.hid (by rw [← HR.out]; unfold removeF; rw [hp])
  have HPN := Lib.hid (And.intro hp (WX.path_names hp))
  clear hp hch hk1 hT1
  go_wp2_with (fail)
  refine HP.out.mono ?_
  rintro e w2 ⟨⟨v, rfl, h2⟩, k2⟩
  unfold PathP at h2
  rw [HPN.out.1] at h2
  obtain ⟨lv, rfl, hl⟩ := h2
  have hl2 := hl.at
  obtain ⟨lp, lc, rfl⟩ : ∃ lp lc, lv = .slice lp p.length lc := by obtain ⟨a, b, c, _⟩ := hl.at; exact ⟨a, b, c⟩
  have HL := Lib.hid hl2
  have K2 := Lib.hid k2
  have hp8 := HPN.out.2.1
  have hpI : (p.length : Int) ≤ 8 := by omega
  clear hl hl2 k2 hp8
  by_cases hpn : p = []
  ·have hp0 : (p.length : Int) = 0 := by rw [hpn]; rfl
   have HE : Hid (R = (164, given, E)) := Lib.hid (by rw [HRR.out, if_pos hpn])
   clear hpn
   go_wp2_with (fail)
   go_ret
   rw [HE.out]
   exact HNO.out _ 164 K2.out
  have hp0 : ((p.length : Int) == 0) = false := by have := List.length_pos_iff.2 hpn; simp; omega
  have HFD := Lib.hid (find_any w2 ff sb V given E (H1.out.1.fr.same K2.out) (.slice lp p.length lc) p HL.out HPN.out.2.1)
  have HPP := Lib.hid hpn
  clear hpn
  go_wp2_with (fail)
  refine HFD.out.mono ?_
  rintro e w3 ⟨⟨v3, rfl, h3, hpe⟩, k3⟩
  unfold FindP at h3
  have K3 := Lib.hid (K2.out.trans' k3)
  have K23 := Lib.hid k3
  clear k3
  by_cases hz : findF E [] p = 0
  case neg =>
   rw [if_neg hz] at h3
   subst h3
   have hzI : ((findF E [] p : Int) != 0) = true := by simp; exact hz
   have HE : Hid (R = (((findF E [] p : Nat) : Int), given, E)) := Lib.hid (by rw [HRR.out, if_neg HPP.out, if_pos hz])
   clear hz hpe
   go_wp2_with (fail)
   go_ret
   rw [HE.out]
   exact HNO.out _ _ K3.out
  case pos =>
  rw [if_pos hz] at h3
  obtain ⟨nv, rfl, hn⟩ := h3
  obtain ⟨x, hx⟩ : ∃ x, ent E p = some x := by
   rcases hpe hz with h | h
   ·exact absurd h HPP.out
   ·exact Option.isSome_iff_exists.1 h
  obtain ⟨hxE, hxp⟩ := ent_mem hx
  have HX := Lib.hid (And.intro hx (And.intro hxE (And.intro hxp hz)))
  have hnq : numP E p = x.num := numP_of hx HPP.out
  rw [hnq]
  obtain ⟨q, hq⟩ : ∃ q, x.num = q := ⟨_, rfl⟩
  rw [hq]
  have hxn := H.out.wf.num x hxE
  rw [hq] at hxn
  have hgv := H.out.gv
  have hqI : (q : Int) ≤ 16777216 := by omega
  obtain ⟨k0, hk0⟩ : ∃ k0, 64 * q = k0 := ⟨_, rfl⟩
  have em0 : (64 : Int) * (q : Int) = (k0 : Int) := by omega
  have hk0I : (k0 : Int) ≤ 1073741824 := by omega
  obtain ⟨u, hu⟩ : ∃ u, numP E p.dropLast = u := ⟨_, rfl⟩
  have hud := up_dir H.out.wf hxE
  rw [hxp] at hud
  have hun := H.out.wf.numP (isDirP_some hud)
  rw [hu] at hun
  have huI : (u : Int) ≤ 16777216 := by omega
  obtain ⟨k1, hk1⟩ : ∃ k1, 64 * u = k1 := ⟨_, rfl⟩
  have em1 : (64 : Int) * (u : Int) = (k1 : Int) := by omega
  have hk1I : (k1 : Int) ≤ 1073741824 := by omega
  obtain ⟨ln, hln⟩ : ∃ ln, p.getLastD [] = ln := ⟨_, rfl⟩
  obtain ⟨l, hl⟩ : ∃ l, kids E p.dropLast = l := ⟨_, rfl⟩
  have hls : l.length ≤ 6 := by rw [← hl]; exact H.out.wf.few _
  have hsl : SortE l := by rw [← hl]; exact sort_kids H.out.wf.paths _
  have hhas : hasE l ln = true := by rw [← hl, has_kids, ← hln, last_snoc HPP.out, hx]; rfl
  have HWI := Lib.hid (fun W (k : Kept [] w2 W) => fwithin_any W ff sb V given E ((H1.out.1.fr.same K2.out).same k) (.slice lp p.length lc) p (StrsAt.kept HL.out k) HPN.out.2.1 HPP.out)
  have hwp : ∀ W v, WithinP W v E p → ∃ dp dc, v = .tuple #[I u, .slice dp l.length dc, S ln, I 0] ∧ EnsAt W (.slice dp l.length dc) l := fun W v h => by
   unfold WithinP at h
   rw [if_pos (findF_up HPP.out hz), if_pos hud, hu, hln, hl] at h
   obtain ⟨d, rfl, he⟩ := h
   have he2 := he
   obtain ⟨a, b, c, rfl, _⟩ := he2
   exact ⟨a, b, rfl, he⟩
  have HWP := Lib.hid hwp
  have HWO := Lib.hid (fun W v (hv : EnsAt W v l) => without_any W v l hv hsl (by omega) ln hhas)
  obtain ⟨l', hl'⟩ : ∃ l', delE l ln = l' := ⟨_, rfl⟩
  rw [hl'] at HWO
  have hl'l : l'.length ≤ 6 := by rw [← hl']; exact Nat.le_trans (List.length_filter_le _ _) hls
  have hrk := row_kids H.out.wf (by omega) p.dropLast (l := l') (fun y hy => .inl (by rw [hl]; rw [← hl'] at hy; exact (mem_delE.1 hy).1))
  have HROW := Lib.hid (fun W v (h : EnsAt W v l') => erow_any W v l' h (by omega) hrk.1)
  obtain ⟨row, hrow⟩ : ∃ row, rowD l' = row := ⟨_, rfl⟩
  rw [hrow] at HROW
  have hrl : row.length ≤ 175 := by rw [← hrow]; have := hrk.2; omega
  have hrI : (row.length : Int) ≤ 175 := by omega
  have HFIN : Hid (kids E p = [] → ∀ (W : World) (mb : Nat) (M : CM), w3.heap.size ≤ mb → SetOK M 160 → (∀ k, behS M (objF given E) k = cutK given E q (chunkO []) k) → SetAt W mb (putS (dropS M (k0 : Int)) (k1 : Int) row) → Kept [] w3 W → Calls Tryz.prog 49 #[Ptr ff, .map (some mb)] W (OpP w fb sb n V d T z given E R)) := Lib.hid (fun hkids W mb M hmb hOK hbeh hS kW => by
   have hRE : R = tryF n given E given (remE E x.path) := by rw [HRR.out, if_neg HPP.out, if_neg (by simpa using hz), if_neg (by simpa using hkids), hxp]
   rw [hRE]
   have hkw : Kept [] w1 W := K3.out.trans' kW
   have hOK2 := (hOK.drop (k0 : Int) (by omega) (by omega)).put (k1 : Int) row (by omega) (by omega) (by omega)
   have hwf := wf_rem H.out.wf hxE (by rw [hxp]; exact hkids)
   refine does_op (V0 := V) (H1.out.1.same hkw) mb _ hS 347 ⟨hOK2.srt, hOK2.ok, Nat.le_trans hOK2.size (by omega)⟩ (by omega) hwf (fun k => ?_) (Nat.le_refl _) (H1.out.2.1.trans hkw (by simp)) (fun x hx => H1.out.2.2 x hx) (Nat.le_trans H1.out.2.1.size hkw.size)
   rw [← hq] at hbeh
   have := rem_beh H.out.wf hxE hOK.srt hbeh k
   rw [hxp, hu, hl, hln, hl', hrow, hq, hk0, hk1] at this
   rw [hxp]
   exact this)
  have HM := Lib.hid (And.intro hnq (And.intro hq (And.intro hk0 (And.intro hk1 (And.intro hxn hun)))))
  obtain ⟨mb, hmb⟩ : ∃ mb, w3.heap.size = mb := ⟨_, rfl⟩
  have HS0 : Hid (SetAt (w3.alloc (.map #[] 0)) mb []) := Lib.hid (by rw [← hmb]; exact amap_made w3)
  have HMB := Lib.hid hmb
  have HK0 : Hid (Kept [] w3 (w3.alloc (.map #[] 0))) := Lib.hid ((Kept.refl [] w3).alloc _)
  have hnod : NodeP w3 nv E p := hn
  rcases hn with ⟨hd, dv, rfl, hens⟩ | ⟨hd, x', hx', rfl⟩
  ·-- a directory
   have hta := fun (W : World) => (show (Instr.typeAssert (.iface 87 dv) 99 87 true).run Tryz.prog W = .ok (.tuple #[dv, .bool true]) W from by kernel_rfl)
   obtain ⟨kl, hkl⟩ : ∃ kl, kids E p = kl := ⟨_, rfl⟩
   have hklen := H.out.wf.few p
   rw [hkl] at hens hklen
   obtain ⟨pd, cd, rfl⟩ : ∃ pd cd, dv = .slice pd kl.length cd := by obtain ⟨a, b, _, c, _⟩ := hens; exact ⟨a, b, c⟩
   have hklI : (kl.length : Int) ≤ 6 := by omega
   by_cases hk6 : kl = []
   case neg =>
    have hpos := List.length_pos_iff.2 hk6
    have hposI : (0 : Int) < kl.length := by omega
    have HE : Hid (R = (164, given, E)) := Lib.hid (by rw [HRR.out, if_neg HPP.out, if_neg (by simpa using hz), if_pos (by rw [hkl]; exact hk6)])
    clear hz hpe hx hxE hxp hnq hq hxn hgv hu hud hun hln hl hls hsl hhas hwp hl' hl'l hrk hrow hrl hk0 hk1 hnod hens hkl hklen hk6 hpos hd hmb
    go_wp2_with (fail)
    go_ret
    rw [HE.out]
    exact HNO.out _ _ (K3.out.trans' HK0.out)
   case pos =>
   have hxd : x.dir = true := by rw [← isDirP_of H.out.wf hx]; exact hd
   have hxdat := (H.out.wf.data x hxE).2 hxd
   have HB0 : Hid (∀ k, behS [] (objF given E) k = cutK given E q (chunkO []) k) := Lib.hid (fun k => by
    rw [behS_nil, ← hxdat, ← hq, cutK_chunk]
    exact (chunkK_self H.out.wf hxE k).symm)
   have HKID := Lib.hid (hkl.trans hk6)
   subst hk6
   simp only [List.length_nil] at hta
   have HDR := Lib.hid (sdrop_any (w3.alloc (.map #[] 0)) mb [] HS0.out (by simp) (k0 : Int) ⟨by omega, by omega⟩)
   clear hz hpe hx hxE hxp hnq hq hxn hgv hu hud hun hln hl hls hsl hhas hwp hl' hl'l hrk hrow hk0 hk1 hnod hens hkl hklen hd hxd hxdat
   go_wp2_with (fail)
   clear hmb
   refine HDR.out.mono ?_
   rintro e w5 ⟨rfl, s5, k5⟩
   have K5 := Lib.hid (HK0.out.new1 k5 (by rw [HMB.out]; exact Nat.le_refl _))
   have HS5 := Lib.hid s5
   clear s5 k5
   go_wp2_with (fail)
   refine (HWI.out w5 (K23.out.trans' K5.out)).mono ?_
   rintro e w6 ⟨⟨v6, rfl, h6⟩, k6⟩
   obtain ⟨dp, dc, rfl, he6⟩ := HWP.out _ _ h6
   have K6 := Lib.hid (And.intro he6 k6)
   clear h6 he6 k6
   go_wp2_with (fail)
   refine (HWO.out w6 _ K6.out.1).mono ?_
   rintro e w7 ⟨⟨v7, rfl, h7⟩, k7⟩
   have K7 := Lib.hid (And.intro h7.at (K6.out.2.trans' k7))
   clear h7 k7
   go_wp2_with (fail)
   refine (HROW.out w7 v7 K7.out.1).mono ?_
   rintro e w8 ⟨rfl, k8⟩
   have K8 := Lib.hid (K7.out.2.trans' k8)
   clear k8
   go_wp2_with (fail)
   refine (sput_any w8 mb _ (HS5.out.same K8.out) (by unfold dropS; rw [len_ins]; show ([] : CM).length + 1 < 1000; simp) (k1 : Int) ⟨by omega, by omega⟩ row (by omega)).mono ?_
   rintro e w9 ⟨rfl, s9, k9⟩
   have HFN := Lib.hid (HFIN.out HKID.out w9 mb [] (by rw [HMB.out]; exact Nat.le_refl _) ⟨List.Pairwise.nil, (fun p hp => by cases hp), Nat.zero_le _⟩ HB0.out s9 ((K5.out.trans' K8.out).new1 k9 (by rw [HMB.out]; exact Nat.le_refl _)))
   clear s9 k9
   go_wp2_with (fail)
   refine HFN.out.mono ?_
   rintro e w10 ⟨r, T', rfl, hP2⟩
   have HPP2 := Lib.hid hP2
   clear hP2
   go_wp2_with (fail)
   go_ret
   exact ⟨r, T', rfl, HPP2.out⟩
  ·-- a file
   obtain rfl : x = x' := by rw [hx] at hx'; exact Option.some.inj hx'
   have hxd : x.dir = false := by rw [← isDirP_of H.out.wf hx]; exact hd
   obtain ⟨L, hL⟩ : ∃ L, x.data.length = L := ⟨_, rfl⟩
   have hL4 : L ≤ 4096 := by rw [← hL]; exact (H.out.wf.data x hxE).1
   have hkid : kids E p = [] := by rw [← hxp]; exact kids_file H.out.wf hxE hxd
   rw [hL]
   have hta := fun (W : World) => (show (Instr.typeAssert (.iface 78 (.agg #[I L])) 99 87 true).run Tryz.prog W = .ok (.tuple #[.slice none 0 0, .bool false]) W from by kernel_rfl)
   have htb := fun (W : World) => (show (Instr.typeAssert (.iface 78 (.agg #[I L])) 99 78 true).run Tryz.prog W = .ok (.tuple #[.agg #[I L], .bool true]) W from by kernel_rfl)
   obtain ⟨D, hD⟩ : ∃ D, x.data = D := ⟨_, rfl⟩
   have hDL : D.length = L := by rw [← hD]; exact hL
   have HKID := Lib.hid hkid
   have HQ : Hid (∀ k, behS [] (objF given E) k = cutK given E q (cutO D 0 0) k) := Lib.hid (fun k => by
    rw [cutK_ext (fun j => cut_start D 0 j (by omega)), cutK_chunk, behS_nil, ← hD, ← hq]
    exact (chunkK_self H.out.wf hxE k).symm)
   have HDD := Lib.hid (And.intro hDL hL4)
   have hLI : (L : Int) ≤ 4096 := by omega
   obtain ⟨W4, hW4⟩ : ∃ W4, w3.alloc (.map #[] 0) = W4 := ⟨_, rfl⟩
   rw [hW4] at HS0 HK0
   have n1 := heap_new W4 (Obj.cells #[I 0] 78)
   have hk2 := HK0.out.alloc (Obj.cells #[I 0] 78)
   obtain ⟨W5, hW5⟩ : ∃ W5, W4.alloc (Obj.cells #[I 0] 78) = W5 := ⟨_, rfl⟩
   obtain ⟨b, hb⟩ : ∃ b, W4.heap.size = b := ⟨_, rfl⟩
   have hbw : w3.heap.size ≤ b := by rw [← hb]; exact HK0.out.size
   rw [hW5] at n1 hk2
   rw [hb] at n1
   have a2 := free_at n1
   have a1 := cell_at n1 0
   simp only [List.getElem?_toArray, List.getElem?_cons_zero] at a1
   obtain ⟨W6, hW6⟩ : ∃ W6, W5.setCell ⟨b, 0, none⟩ (I L) = W6 := ⟨_, rfl⟩
   have b1 : W6.cell? ⟨b, 0, none⟩ = some (I L) := by rw [← hW6, cell_at (heap_setCell_at n1 0 _)]; rfl
   have hk3 : Kept [] w3 W6 := by rw [← hW6]; exact hk2.setCell (.inr hbw) _
   have hmlt : mb < b := by
    have := HS0.out.lt
    omega
   have hk46 : Kept [] W4 W6 := by rw [← hW6, ← hW5]; exact ((Kept.refl [] W4).alloc _).setCell (.inr (by show W4.heap.size ≤ b; omega)) _
   have HK := Lib.hid hk3
   have HB1 := Lib.hid b1
   have HML := Lib.hid hmlt
   have HS6 := Lib.hid (HS0.out.same hk46)
   clear n1 hk2 hbw hk3 hk46
   clear hz hpe hx hxE hxp hnq hq hxn hgv hu hud hun hln hl hls hsl hhas hwp hl' hl'l hrk hrow hk0 hk1 hnod hd hxd hL hkid hD hDL hx' hL4
   go_wp2_with (first | (simp only [hW4, hW5, hW6]; done) | (simp only [hW4, hW5, hW6]))
   clear hmb
   go_loopw [14] (fun v14 wr => ∃ (i : Nat) (M : CM), i ≤ 32 ∧ v14 = I i ∧ SetAt wr mb M ∧ SetOK M (5 * i) ∧ (∀ k, behS M (objF given E) k = cutK given E q (cutO D 0 i) k) ∧ wr.cell? ⟨b, 0, none⟩ = some (I L) ∧ Kept [] w3 wr) (fun v14 _ => 33 - (intOf v14).toNat)
   case atStart => exact ⟨0, [], by omega, rfl, HS6.out, SetOK.nil, HQ.out, HB1.out, HK.out⟩
   case round =>
    obtain ⟨i, M, hi2, rfl, hS, hOK, hbeh, d1, kr⟩ := hrel
    have HJ := Lib.hid (And.intro hS (And.intro hOK (And.intro hbeh kr)))
    have hiI : (i : Int) ≤ 32 := by omega
    clear hS hOK hbeh kr
    by_cases hlt : i * 128 < L
    case neg =>
     have hltI : ¬ (i : Int) * 128 < L := by omega
     have HDR := Lib.hid (sdrop_any wr mb M HJ.out.1 (by have := HJ.out.2.1.len; omega) (k0 : Int) ⟨by omega, by omega⟩)
     have HHL := Lib.hid hlt
     clear hlt
     go_wp2_with (fail)
     refine HDR.out.mono ?_
     rintro e w5 ⟨rfl, s5, k5⟩
     have K5 := Lib.hid (HJ.out.2.2.2.new1 k5 (by rw [HMB.out]; exact Nat.le_refl _))
     have HS5 := Lib.hid s5
     clear s5 k5
     go_wp2_with (fail)
     refine (HWI.out w5 (K23.out.trans' K5.out)).mono ?_
     rintro e w6 ⟨⟨v6, rfl, h6⟩, k6⟩
     obtain ⟨dp, dc, rfl, he6⟩ := HWP.out _ _ h6
     have K6 := Lib.hid (And.intro he6 k6)
     clear h6 he6 k6
     go_wp2_with (fail)
     refine (HWO.out w6 _ K6.out.1).mono ?_
     rintro e w7 ⟨⟨v7, rfl, h7⟩, k7⟩
     have K7 := Lib.hid (And.intro h7.at (K6.out.2.trans' k7))
     clear h7 k7
     go_wp2_with (fail)
     refine (HROW.out w7 v7 K7.out.1).mono ?_
     rintro e w8 ⟨rfl, k8⟩
     have K8 := Lib.hid (K7.out.2.trans' k8)
     clear k8
     go_wp2_with (fail)
     refine (sput_any w8 mb _ (HS5.out.same K8.out) (by unfold dropS; have := HJ.out.2.1.len; have := (del_sub (k0 : Int) M).length_le; rw [len_ins]; omega) (k1 : Int) ⟨by omega, by omega⟩ row (by omega)).mono ?_
     rintro e w9 ⟨rfl, s9, k9⟩
     have HFN := Lib.hid (HFIN.out HKID.out w9 mb M (by rw [HMB.out]; exact Nat.le_refl _) ⟨HJ.out.2.1.srt, HJ.out.2.1.ok, Nat.le_trans HJ.out.2.1.size (by omega)⟩ (fun k => by rw [HJ.out.2.2.1 k]; exact cutK_ext (fun j => by rw [cut_end D 0 i j (by omega) (by have := HHL.out; have := HDD.out.1; omega)]; rfl) k) s9 ((K5.out.trans' K8.out).new1 k9 (by rw [HMB.out]; exact Nat.le_refl _)))
     clear s9 k9
     go_wp2_with (fail)
     refine HFN.out.mono ?_
     rintro e w10 ⟨r, T', rfl, hP2⟩
     have HPP2 := Lib.hid hP2
     clear hP2
     go_wp2_with (fail)
     go_ret
     exact ⟨r, T', rfl, HPP2.out⟩
    case pos =>
     have hltI : (i : Int) * 128 < L := by omega
     obtain ⟨kk, hkk⟩ : ∃ kk, 64 * q + 1 + i = kk := ⟨_, rfl⟩
     have em2 : (k0 : Int) + 1 + (i : Int) = (kk : Int) := by omega
     have hkkI : (kk : Int) ≤ 1073742000 := by omega
     have HSP := Lib.hid (sdrop_any wr mb M HJ.out.1 (by have := HJ.out.2.1.len; omega) (kk : Int) ⟨by omega, by omega⟩)
     have HMM := Lib.hid (And.intro hkk (And.intro hlt d1))
     clear hkk hlt
     go_wp2_with (fail)
     refine HSP.out.mono ?_
     rintro e w5 ⟨rfl, s5, k5⟩
     have K5 := Lib.hid (And.intro s5 k5)
     clear s5 k5
     go_wp2_with (fail)
     go_roundw
     case rel =>
      obtain ⟨hkk, hlt, d1⟩ := HMM.out
      obtain ⟨hSx, hOK, hbeh, kr⟩ := HJ.out
      have hxn := HM.out.2.2.2.2.1
      have hL4 := HDD.out
      have hdr := hOK.drop (kk : Int) (by omega) (by omega)
      refine ⟨i + 1, dropS M (kk : Int), by omega, by go_num, K5.out.1, ⟨hdr.srt, hdr.ok, Nat.le_trans hdr.size (by omega)⟩, fun k => ?_, kept_cell K5.out.2 d1 (by have := HML.out; simp; omega), kr.new K5.out.2 (by intro y hy; simp at hy; have := HMB.out; omega)⟩
      have := cutK_drop (given := given) (E := E) hOK.srt (q := q) (i := i) (by omega) hxn.1 hbeh (g := cutO D 0 (i + 1)) (by unfold cutO; rw [if_pos (by omega), cut_none D 0 i (by omega)]) (fun j hj => cut_next D 0 i j hj) k
      rw [hkk] at this
      exact this
     case measure => simp [intOf]; omega
 ·have HX := Lib.hid (OpP.gone (n := n) (sb := sb) (d := d) H.out.st.sorted H.out.st.stk.small.2.2.1 hz hpf (by omega) H.out.sim hk1 hT1 R)
  clear hp hz hpf hk1 hT1
  go_wp2_with (fail)
  go_ret
  exact HX.out
end Go.Proofs.YteplbljjlbdhaaaGreatDoor
