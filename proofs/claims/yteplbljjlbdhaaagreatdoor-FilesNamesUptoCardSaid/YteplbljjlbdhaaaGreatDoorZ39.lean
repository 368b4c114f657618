/- Walks and lemmas on the program of this seat, used by its statements; each theorem bears its own conditions. -/
import Derived.Test.YteplbljjlbdhaaaGreatDoorZ38
import Derived.RangeFuncNested
namespace Go.Proofs.YteplbljjlbdhaaaGreatDoor
open Go.RowKit
set_option linter.unusedVariables false
set_option linter.unusedSimpArgs false
set_option linter.unusedSectionVars false
set_option maxHeartbeats 16000000
set_option maxRecDepth 100000
def renP (p q a : List Nm) : List Nm := if p.isPrefixOf a = true then q ++ a.drop p.length else a
def renX (p q : List Nm) (x : Nd) : Nd := ⟨renP p q x.path, x.num, x.dir, x.data⟩
def renE (E : List Nd) (p q : List Nm) : List Nd := E.map (renX p q)
theorem pre_iff {p a : List Nm} : p.isPrefixOf a = true ↔ ∃ r, a = p ++ r := by
 rw [List.isPrefixOf_iff_prefix]
 constructor
 ·rintro ⟨r, h⟩; exact ⟨r, h.symm⟩
 ·rintro ⟨r, h⟩; exact ⟨r, h.symm⟩
theorem renP_in (p q r : List Nm) : renP p q (p ++ r) = q ++ r := by
 unfold renP
 rw [if_pos (pre_iff.2 ⟨r, rfl⟩), List.drop_left]
theorem renP_out {p q a : List Nm} (h : ¬ ∃ r, a = p ++ r) : renP p q a = a := by
 unfold renP
 rw [if_neg (fun e => h (pre_iff.1 e))]
theorem anc {given : Nat} {E : List Nd} (h : WF given E) {q : List Nm} (hq : q ≠ []) : ∀ (n : Nat) (r : List Nm), r.length = n → ∀ b ∈ E, b.path = q ++ r → ∃ y ∈ E, y.path = q ∧ (r ≠ [] → y.dir = true)
 | 0, r, hr, b, hb, e => by
  have : r = [] := List.length_eq_zero_iff.1 hr
  subst this
  exact ⟨b, hb, by simpa using e, fun hh => absurd rfl hh⟩
 | n + 1, r, hr, b, hb, e => by
  have hr0 : r ≠ [] := by rintro rfl; cases hr
  have hd : b.path.dropLast = q ++ r.dropLast := by rw [e, List.dropLast_append_of_ne_nil hr0]
  rcases h.up b hb with h1 | ⟨y, hy, h1, h2⟩
  ·rw [hd] at h1
   exact absurd (List.append_eq_nil_iff.1 h1).1 hq
  ·rw [hd] at h1
   obtain ⟨z, hz, hz1, hz2⟩ := anc h hq n r.dropLast (by rw [List.length_dropLast]; omega) y hy h1
   refine ⟨z, hz, hz1, fun _ => ?_⟩
   by_cases hc : r.dropLast = []
   ·rw [hc, List.append_nil] at h1
    have := distP_eq h.paths hz hy (by rw [hz1, h1])
    rw [this]; exact h2
   ·exact hz2 hc
theorem numP_inj {given : Nat} {E : List Nd} (h : WF given E) {a b : List Nm} (ha : a = [] ∨ (ent E a).isSome) (hb : b = [] ∨ (ent E b).isSome) (e : numP E a = numP E b) : a = b := by
 have key : ∀ {c : List Nm}, c ≠ [] → (c = [] ∨ (ent E c).isSome) → ∃ x ∈ E, x.path = c ∧ numP E c = x.num := fun {c} hc hh => by
  rcases hh with hh | hh
  ·exact absurd hh hc
  ·obtain ⟨x, hx⟩ := Option.isSome_iff_exists.1 hh
   exact ⟨x, (ent_mem hx).1, (ent_mem hx).2, numP_of hx hc⟩
 by_cases ha0 : a = []
 ·by_cases hb0 : b = []
  ·rw [ha0, hb0]
  ·obtain ⟨y, hy, h1, h2⟩ := key hb0 hb
   rw [ha0, numP_root, h2] at e
   have := h.num y hy
   omega
 ·obtain ⟨x, hx, h1, h2⟩ := key ha0 ha
  by_cases hb0 : b = []
  ·rw [hb0, numP_root, h2] at e
   have := h.num x hx
   omega
  ·obtain ⟨y, hy, h3, h4⟩ := key hb0 hb
   rw [h2, h4] at e
   rw [← h1, ← h3, num_eq h.nums hx hy e]
section
variable {given : Nat} {E : List Nd} (h : WF given E) {x : Nd} (hx : x ∈ E) {q : List Nm} (hq : q ≠ []) (hqn : ent E q = none) (hpq : ¬ ∃ r, q = x.path ++ r)
include h hx hq hqn hpq
omit hx hpq in
theorem no_q (y : Nd) (hy : y ∈ E) (r : List Nm) : y.path ≠ q ++ r := fun e => by
 obtain ⟨z, hz, h1, _⟩ := anc h hq r.length r rfl y hy e
 exact ent_none hqn z hz h1
omit hx hpq in
theorem ren_inj {y z : Nd} (hy : y ∈ E) (hz : z ∈ E) (e : renP x.path q y.path = renP x.path q z.path) : y.path = z.path := by
 by_cases h1 : ∃ r, y.path = x.path ++ r
 ·obtain ⟨r, h1⟩ := h1
  rw [h1, renP_in] at e
  by_cases h2 : ∃ r, z.path = x.path ++ r
  ·obtain ⟨s, h2⟩ := h2
   rw [h2, renP_in] at e
   rw [h1, h2, List.append_cancel_left e]
  ·rw [renP_out h2] at e
   exact absurd e.symm (no_q h hq hqn z hz r)
 ·rw [renP_out h1] at e
  by_cases h2 : ∃ r, z.path = x.path ++ r
  ·obtain ⟨s, h2⟩ := h2
   rw [h2, renP_in] at e
   exact absurd e (no_q h hq hqn y hy s)
  ·rw [renP_out h2] at e
   exact e
omit hx hpq in
theorem distP_ren : DistP (renE E x.path q) := by
 unfold DistP renE
 rw [List.pairwise_map]
 exact List.Pairwise.imp_of_mem (fun {a b} ha hb hab e => hab (ren_inj h hq hqn ha hb e)) h.paths
def stayE (E : List Nd) (p a : List Nm) : List En := (kids E a).filter fun k => ! p.isPrefixOf (a ++ [k.1])
omit h hx hq hqn hpq in
theorem stay_mem (p a : List Nm) (k : En) : k ∈ stayE E p a ↔ k ∈ kids E a ∧ ¬ ∃ r, a ++ [k.1] = p ++ r := by
 unfold stayE
 rw [List.mem_filter, ← pre_iff, Bool.not_eq_true', Bool.not_eq_true]
def kidsR (E : List Nd) (x : Nd) (q a : List Nm) : List En := if q.isPrefixOf a = true then kids E (x.path ++ a.drop q.length) else if q.dropLast = a then insE (stayE E x.path a) (q.getLastD [], x.num) else stayE E x.path a
omit hx hq hqn hpq in
theorem stay_sort (a : List Nm) : SortE (stayE E x.path a) := List.Pairwise.filter _ (sort_kids h.paths a)
omit h hx hpq in
theorem stay_new {a : List Nm} (ha : q.dropLast = a) : ∀ y ∈ stayE E x.path a, y.1 ≠ q.getLastD [] := fun y hy e => by
 obtain ⟨h1, _⟩ := (stay_mem _ _ _).1 hy
 obtain ⟨z, hz, h2, _⟩ := mem_kids.1 h1
 rw [e, ← ha, last_snoc hq] at h2
 exact ent_none hqn z hz h2
theorem kids_ren (a : List Nm) : kids (renE E x.path q) a = kidsR E x q a := by
 have hp := (h.form x hx).1
 refine kids_is (distP_ren h hq hqn) ?_ fun k => ?_
 ·unfold kidsR
  split
  ·exact sort_kids h.paths _
  ·split
   ·next ha => exact sort_insE (stay_sort h a) _ (stay_new hq hqn ha)
   ·exact stay_sort h a
 ·have hm : (∃ y ∈ renE E x.path q, y.path = a ++ [k.1] ∧ y.num = k.2) ↔ ∃ y ∈ E, renP x.path q y.path = a ++ [k.1] ∧ y.num = k.2 := by
   unfold renE
   constructor
   ·rintro ⟨y, hy, h1, h2⟩
    obtain ⟨z, hz, rfl⟩ := List.mem_map.1 hy
    exact ⟨z, hz, h1, h2⟩
   ·rintro ⟨z, hz, h1, h2⟩
    exact ⟨_, List.mem_map.2 ⟨z, hz, rfl⟩, h1, h2⟩
  rw [hm]
  unfold kidsR
  by_cases hqa : q.isPrefixOf a = true
  ·rw [if_pos hqa]
   obtain ⟨r, rfl⟩ := pre_iff.1 hqa
   rw [List.drop_left, mem_kids]
   constructor
   ·rintro ⟨y, hy, h1, h2⟩
    exact ⟨y, hy, by rw [h1, List.append_assoc, renP_in, List.append_assoc], h2⟩
   ·rintro ⟨y, hy, h1, h2⟩
    refine ⟨y, hy, ?_, h2⟩
    by_cases hu : ∃ s, y.path = x.path ++ s
    ·obtain ⟨s, hs⟩ := hu
     rw [hs, renP_in, List.append_assoc] at h1
     rw [hs, List.append_cancel_left h1, List.append_assoc]
    ·rw [renP_out hu, List.append_assoc] at h1
     exact absurd h1 (no_q h hq hqn y hy _)
  ·rw [if_neg hqa]
   have key : (∃ y ∈ E, renP x.path q y.path = a ++ [k.1] ∧ y.num = k.2) ↔ (q.dropLast = a ∧ k = (q.getLastD [], x.num)) ∨ k ∈ stayE E x.path a := by
    rw [stay_mem, mem_kids]
    constructor
    ·rintro ⟨y, hy, h1, h2⟩
     by_cases hu : ∃ s, y.path = x.path ++ s
     ·obtain ⟨s, hs⟩ := hu
      rw [hs, renP_in] at h1
      by_cases hs0 : s = []
      ·subst hs0
       rw [List.append_nil] at h1 hs
       have := distP_eq h.paths hy hx hs
       subst this
       obtain ⟨e1, e2⟩ := (snoc_iff hq a k.1).1 h1
       exact .inl ⟨e1, by rw [e2, h2]⟩
      ·have hd := congrArg List.dropLast h1
       rw [List.dropLast_append_of_ne_nil hs0, List.dropLast_concat] at hd
       exact absurd (pre_iff.2 ⟨_, hd.symm⟩) hqa
     ·rw [renP_out hu] at h1
      exact .inr ⟨⟨y, hy, h1, h2⟩, by rw [← h1]; exact hu⟩
    ·rintro (⟨e1, e2⟩ | ⟨⟨y, hy, h1, h2⟩, h3⟩)
     ·subst e2
      refine ⟨x, hx, ?_, rfl⟩
      have := renP_in x.path q []
      rw [List.append_nil, List.append_nil] at this
      rw [this, ← e1]
      exact (last_snoc hq).symm
     ·exact ⟨y, hy, by rw [renP_out (by rw [h1]; exact h3), h1], h2⟩
   rw [key]
   by_cases hqa2 : q.dropLast = a
   ·rw [if_pos hqa2, mem_insE]
    exact ⟨fun hh => hh.elim (fun e => .inl ⟨hqa2, e⟩) .inr, fun hh => hh.elim (fun e => .inl e.2) .inr⟩
   ·rw [if_neg hqa2]
    exact ⟨fun hh => .inr hh, fun hh => hh.elim (fun e => absurd e.1 hqa2) id⟩
omit hq hqn hpq in
theorem stay_up : stayE E x.path x.path.dropLast = delE (kids E x.path.dropLast) (x.path.getLastD []) := by
 have hp := (h.form x hx).1
 unfold stayE delE
 refine List.filter_congr fun k hk => ?_
 have e : x.path.isPrefixOf (x.path.dropLast ++ [k.1]) = decide (k.1 = x.path.getLastD []) := by
  rw [Bool.eq_iff_iff, pre_iff, decide_eq_true_eq]
  constructor
  ·rintro ⟨r, hr⟩
   have hl := congrArg List.length hr
   have h1 := List.length_pos_iff.2 hp
   simp only [List.length_append, List.length_dropLast, List.length_singleton] at hl
   have : r = [] := List.length_eq_zero_iff.1 (by omega)
   subst this
   rw [List.append_nil] at hr
   exact ((snoc_iff hp _ _).1 hr.symm).2.symm
  ·intro hk
   exact ⟨[], by rw [hk, last_snoc hp, List.append_nil]⟩
 rw [e]
 by_cases hc : k.1 = x.path.getLastD [] <;> simp [hc]
omit hq hqn hpq in
theorem stay_out {a : List Nm} (h1 : x.path.dropLast ≠ a) (h2 : ¬ ∃ r, a = x.path ++ r) : stayE E x.path a = kids E a := by
 have hp := (h.form x hx).1
 unfold stayE
 rw [List.filter_eq_self]
 intro k hk
 rw [Bool.not_eq_true', ← Bool.not_eq_true, pre_iff]
 rintro ⟨r, hr⟩
 by_cases hr0 : r = []
 ·subst hr0
  rw [List.append_nil] at hr
  exact h1 (by rw [← hr]; simp)
 ·refine h2 ⟨r.dropLast, ?_⟩
  have := congrArg List.dropLast hr
  rwa [List.dropLast_concat, List.dropLast_append_of_ne_nil hr0] at this
omit h hx hqn in
theorem up_out : ¬ ∃ r, q.dropLast = x.path ++ r := by
 rintro ⟨r, hr⟩
 exact hpq ⟨r ++ [q.getLastD []], by rw [← List.append_assoc, ← hr, last_snoc hq]⟩
theorem wf_ren (hqf : q.length ≤ 8 ∧ q.all WX.nameB = true) (hqd : isDirP E q.dropLast = true) (hl : (kids E q.dropLast).length ≤ 5 ∨ x.path.dropLast = q.dropLast) (hdeep : ∀ y ∈ E, ∀ r, y.path = x.path ++ r → q.length + r.length ≤ 8) : WF given (renE E x.path q) := by
 have hp := (h.form x hx).1
 have hall : ∀ {P : Nd → Prop}, (∀ y ∈ E, P (renX x.path q y)) → ∀ y ∈ renE E x.path q, P y := fun h1 y hy => by
  obtain ⟨z, hz, rfl⟩ := List.mem_map.1 hy
  exact h1 z hz
 have hkup : (x.path.getLastD [], x.num) ∈ kids E x.path.dropLast := mem_kids.2 ⟨x, hx, (last_snoc hp).symm, rfl⟩
 refine ⟨distP_ren h hq hqn, ?_, hall h.num, hall fun y hy => ?_, hall fun y hy => ?_, fun a => ?_, hall h.data⟩
 ·unfold renE
  rw [List.pairwise_map]
  exact h.nums
 ·show renP x.path q y.path ≠ [] ∧ (renP x.path q y.path).length ≤ 8 ∧ (renP x.path q y.path).all WX.nameB = true
  have hf := h.form y hy
  by_cases hu : ∃ s, y.path = x.path ++ s
  ·obtain ⟨s, hs⟩ := hu
   have hd := hdeep y hy s hs
   rw [hs] at hf
   rw [hs, renP_in]
   refine ⟨fun e => hq (List.append_eq_nil_iff.1 e).1, by rw [List.length_append]; exact hd, ?_⟩
   rw [List.all_append, hqf.2]
   have := hf.2.2
   rw [List.all_append, Bool.and_eq_true] at this
   rw [this.2]; rfl
  ·rw [renP_out hu]; exact hf
 ·show (renP x.path q y.path).dropLast = [] ∨ ∃ z ∈ renE E x.path q, z.path = (renP x.path q y.path).dropLast ∧ z.dir = true
  have mk : ∀ z ∈ E, z.dir = true → ∃ z' ∈ renE E x.path q, z'.path = renP x.path q z.path ∧ z'.dir = true := fun z hz hd => ⟨_, List.mem_map.2 ⟨z, hz, rfl⟩, rfl, hd⟩
  by_cases hu : ∃ s, y.path = x.path ++ s
  ·obtain ⟨s, hs⟩ := hu
   rw [hs, renP_in]
   by_cases hs0 : s = []
   ·subst hs0
    rw [List.append_nil]
    by_cases h0 : q.dropLast = []
    ·exact .inl h0
    ·obtain ⟨z, hz, hzd⟩ := isDirP_mem hqd h0
     obtain ⟨a, b, c, d⟩ := mk z (ent_mem hz).1 hzd
     rw [(ent_mem hz).2, renP_out (up_out hq hpq)] at c
     exact .inr ⟨a, b, c, d⟩
   ·rw [List.dropLast_append_of_ne_nil hs0]
    rcases h.up y hy with h1 | ⟨z, hz, h1, h2⟩
    ·rw [hs, List.dropLast_append_of_ne_nil hs0] at h1
     exact absurd (List.append_eq_nil_iff.1 h1).1 hp
    ·rw [hs, List.dropLast_append_of_ne_nil hs0] at h1
     obtain ⟨a, b, c, d⟩ := mk z hz h2
     rw [h1, renP_in] at c
     exact .inr ⟨a, b, c, d⟩
  ·rw [renP_out hu]
   refine (h.up y hy).imp id fun ⟨z, hz, h1, h2⟩ => ?_
   obtain ⟨a, b, c, d⟩ := mk z hz h2
   rw [renP_out (fun ⟨r, hr⟩ => hu ⟨r ++ [y.path.getLastD []], by rw [← List.append_assoc, ← hr, h1, last_snoc (h.form y hy).1]⟩), h1] at c
   exact ⟨a, b, c, d⟩
 ·rw [kids_ren h hx hq hqn hpq]
  unfold kidsR
  have hfl : ∀ b, (stayE E x.path b).length ≤ (kids E b).length := fun b => List.length_filter_le _ _
  split
  ·exact h.few _
  ·split
   ·next ha =>
    rw [insE_len]
    rcases hl with hl | hl
    ·have := hfl a
     rw [ha] at hl
     omega
    ·have h6 := h.few a
     have : (stayE E x.path a).length < (kids E a).length := by
      rw [← ha, ← hl, stay_up h hx]
      unfold delE
      exact List.length_filter_lt_length_iff_exists.2 ⟨_, hkup, by simp⟩
     omega
   ·exact Nat.le_trans (hfl a) (h.few a)
omit h hx hq hqn hpq in
theorem byNum_ren (p : List Nm) (k : Nat) : byNum (renE E p q) k = (byNum E k).map (renX p q) := by
 unfold byNum renE
 rw [List.find?_map]
 rfl
def toE (E : List Nd) (p q : List Nm) : List En := if p.dropLast = q.dropLast then delE (kids E p.dropLast) (p.getLastD []) else kids E q.dropLast
omit hqn in
theorem to_stay : stayE E x.path q.dropLast = toE E x.path q := by
 unfold toE
 by_cases he : x.path.dropLast = q.dropLast
 ·rw [if_pos he, ← he, stay_up h hx]
 ·rw [if_neg he, stay_out h hx he (up_out hq hpq)]
theorem row_out {a : List Nm} (hu : ¬ ∃ r, a = x.path ++ r) (hqa : ¬ ∃ r, a = q ++ r) : kids (renE E x.path q) a = if a = q.dropLast then insE (toE E x.path q) (q.getLastD [], x.num) else if a = x.path.dropLast then delE (kids E x.path.dropLast) (x.path.getLastD []) else kids E a := by
 rw [kids_ren h hx hq hqn hpq]
 unfold kidsR
 rw [if_neg (fun e => hqa (pre_iff.1 e))]
 by_cases h1 : a = q.dropLast
 ·rw [if_pos h1.symm, if_pos h1, h1, to_stay h hx hq hpq]
 ·rw [if_neg (fun e => h1 e.symm), if_neg h1]
  by_cases h2 : a = x.path.dropLast
  ·rw [if_pos h2, h2, stay_up h hx]
  ·rw [if_neg h2, stay_out h hx (fun e => h2 e.symm) hu]
theorem obj_ren (hqd : isDirP E q.dropLast = true) (k : Int) : objF given (renE E x.path q) k = if k = ((64 * numP E q.dropLast : Nat) : Int) then some (rowD (insE (toE E x.path q) (q.getLastD [], x.num))) else if k = ((64 * numP E x.path.dropLast : Nat) : Int) then (if k = 64 ∧ (rowD (delE (kids E x.path.dropLast) (x.path.getLastD []))).length = 1 then none else some (rowD (delE (kids E x.path.dropLast) (x.path.getLastD [])))) else objF given E k := by
 have hp := (h.form x hx).1
 have hud := up_dir h hx
 have hnp := h.numP (isDirP_some hud)
 have hnq := h.numP (isDirP_some hqd)
 have hins : insE (toE E x.path q) (q.getLastD [], x.num) ≠ [] := fun e => by have := congrArg List.length e; rw [insE_len] at this; simp at this
 have hroot : ∀ {a : List Nm}, isDirP E a = true → (numP E a = 1 ↔ a = []) := fun {a} hd => by
  constructor
  ·intro e
   exact numP_inj h (isDirP_some hd) (.inl rfl) (by rw [e, numP_root])
  ·rintro rfl; rfl
 have hnode : ∀ {a : List Nm}, isDirP E a = true → ∀ y ∈ E, (y.num = numP E a ↔ y.path = a) := fun {a} hd y hy => by
  constructor
  ·intro e
   have he := ent_of h.paths hy
   have : numP E y.path = y.num := numP_of he (h.form y hy).1
   exact numP_inj h (.inr (by rw [he]; rfl)) (isDirP_some hd) (by rw [this, e])
  ·rintro rfl
   exact (numP_of (ent_of h.paths hy) (h.form y hy).1).symm
 rcases key_cases k with rfl | rfl | ⟨m, r, hm, hr, rfl⟩ | ⟨k1, k2, k3⟩
 ·rw [if_neg (by omega), if_neg (by omega), objF_one, objF_one]
 ·rw [objF_root, row_out h hx hq hqn hpq (a := []) (fun ⟨r, hr⟩ => hp (List.append_eq_nil_iff.1 hr.symm).1) (fun ⟨r, hr⟩ => hq (List.append_eq_nil_iff.1 hr.symm).1)]
  by_cases h1 : q.dropLast = []
  ·have : numP E q.dropLast = 1 := (hroot hqd).2 h1
   rw [if_pos h1.symm, if_pos hins, if_pos (by omega)]
  ·have : numP E q.dropLast ≠ 1 := fun e => h1 ((hroot hqd).1 e)
   have e1 : ¬ [] = q.dropLast := fun e => h1 e.symm
   have e2 : ¬ (64 : Int) = ((64 * numP E q.dropLast : Nat) : Int) := by omega
   rw [if_neg e1, if_neg e2]
   by_cases h2 : x.path.dropLast = []
   ·have : numP E x.path.dropLast = 1 := (hroot hud).2 h2
    rw [if_pos h2.symm, if_pos (show (64 : Int) = ((64 * numP E x.path.dropLast : Nat) : Int) by omega)]
    by_cases hz : delE (kids E x.path.dropLast) (x.path.getLastD []) = []
    ·rw [if_neg (by rw [hz]; simp), if_pos ⟨rfl, (rowD_one _).2 hz⟩]
    ·rw [if_pos hz, if_neg (fun hh => hz ((rowD_one _).1 hh.2))]
   ·have : numP E x.path.dropLast ≠ 1 := fun e => h2 ((hroot hud).1 e)
    have e3 : ¬ [] = x.path.dropLast := fun e => h2 e.symm
    rw [if_neg e3, if_neg (show ¬ (64 : Int) = ((64 * numP E x.path.dropLast : Nat) : Int) by omega), objF_root]
 ·rw [objF_at hr hm, byNum_ren, objF_at hr hm]
  cases hb : byNum E m with
  | none =>
   simp only [Option.map_none]
   have hn : ∀ {a : List Nm}, isDirP E a = true → m ≠ numP E a := fun {a} hd e => by
    by_cases h0 : a = []
    ·rw [h0, numP_root] at e; omega
    ·obtain ⟨y, hy, _⟩ := isDirP_mem hd h0
     rw [numP_of hy h0] at e
     exact byNum_none hb y (ent_mem hy).1 e.symm
   have n1 := hn hqd
   have n2 := hn hud
   rw [if_neg (by omega), if_neg (by omega)]
  | some y =>
   obtain ⟨y1, y2⟩ := byNum_mem hb
   simp only [Option.map_some]
   have eq1 := hnode hqd y y1
   have eq2 := hnode hud y y1
   have hrow : rowX (renE E x.path q) (renX x.path q y) = if y.path = q.dropLast ∧ y.dir = true then rowD (insE (toE E x.path q) (q.getLastD [], x.num)) else if y.path = x.path.dropLast ∧ y.dir = true then rowD (delE (kids E x.path.dropLast) (x.path.getLastD [])) else rowX E y := by
    unfold rowX
    show (if y.dir = true then rowD (kids (renE E x.path q) (renP x.path q y.path)) else rowF y.data.length) = _
    cases hyd : y.dir with
    | false => simp
    | true =>
     simp only [if_true, and_true]
     by_cases hu : ∃ s, y.path = x.path ++ s
     ·obtain ⟨s, hs⟩ := hu
      have a1 : ¬ y.path = q.dropLast := fun e => up_out hq hpq ⟨s, by rw [← e, hs]⟩
      have a2 : ¬ y.path = x.path.dropLast := fun e => by
       have := congrArg List.length (hs.symm.trans e)
       rw [List.length_append, List.length_dropLast] at this
       have := List.length_pos_iff.2 hp
       omega
      rw [if_neg a1, if_neg a2, hs, renP_in, kids_ren h hx hq hqn hpq]
      unfold kidsR
      rw [if_pos (pre_iff.2 ⟨s, rfl⟩), List.drop_left]
     ·rw [renP_out hu, row_out h hx hq hqn hpq hu (fun ⟨r, hr⟩ => no_q h hq hqn y y1 r hr)]
      by_cases a1 : y.path = q.dropLast
      ·rw [if_pos a1, if_pos a1]
      ·rw [if_neg a1, if_neg a1]
       by_cases a2 : y.path = x.path.dropLast
       ·rw [if_pos a2, if_pos a2]
       ·rw [if_neg a2, if_neg a2]
   have hdir : ∀ {a : List Nm}, isDirP E a = true → y.path = a → y.dir = true := fun {a} hd e => by
    have := ent_of h.paths y1
    rw [← isDirP_of h this, e]
    exact hd
   by_cases hr0 : r = 0
   ·subst hr0
    rw [if_pos rfl, if_pos rfl, hrow]
    by_cases a1 : y.path = q.dropLast
    ·have := eq1.2 a1
     rw [if_pos ⟨a1, hdir hqd a1⟩, if_pos (by omega)]
    ·have : ¬ y.num = numP E q.dropLast := fun e => a1 (eq1.1 e)
     have b1 : ¬ (y.path = q.dropLast ∧ y.dir = true) := fun hh => a1 hh.1
     have b2 : ¬ ((64 * m + 0 : Nat) : Int) = ((64 * numP E q.dropLast : Nat) : Int) := by omega
     rw [if_neg b1, if_neg b2]
     by_cases a2 : y.path = x.path.dropLast
     ·have := eq2.2 a2
      have b3 : ((64 * m + 0 : Nat) : Int) = ((64 * numP E x.path.dropLast : Nat) : Int) := by omega
      have b4 : ¬ (((64 * m + 0 : Nat) : Int) = 64 ∧ (rowD (delE (kids E x.path.dropLast) (x.path.getLastD []))).length = 1) := by rintro ⟨h, _⟩; omega
      rw [if_pos ⟨a2, hdir hud a2⟩, if_pos b3, if_neg b4]
     ·have : ¬ y.num = numP E x.path.dropLast := fun e => a2 (eq2.1 e)
      have b3 : ¬ ((64 * m + 0 : Nat) : Int) = ((64 * numP E x.path.dropLast : Nat) : Int) := by omega
      have b4 : ¬ (y.path = x.path.dropLast ∧ y.dir = true) := fun hh => a2 hh.1
      rw [if_neg b4, if_neg b3]
   ·have n1 : ¬ ((64 * m + r : Nat) : Int) = ((64 * numP E q.dropLast : Nat) : Int) := by omega
    have n2 : ¬ ((64 * m + r : Nat) : Int) = ((64 * numP E x.path.dropLast : Nat) : Int) := by omega
    rw [if_neg hr0, if_neg hr0, if_neg n1, if_neg n2]
    rfl
 ·rw [objF_rest k1 k2 k3, objF_rest k1 k2 k3]
  rw [if_neg (by omega), if_neg (by omega)]
end
theorem ren_beh {given : Nat} {E : List Nd} (h : WF given E) {x : Nd} (hx : x ∈ E) {q : List Nm} (hq : q ≠ []) (hqn : ent E q = none) (hpq : ¬ ∃ r, q = x.path ++ r) (hqd : isDirP E q.dropLast = true) (k : Int) :
  objF given (renE E x.path q) k = behS (putS (putS [] ((64 * numP E x.path.dropLast : Nat) : Int) (rowD (delE (kids E x.path.dropLast) (x.path.getLastD [])))) ((64 * numP E q.dropLast : Nat) : Int) (rowD (insE (toE E x.path q) (q.getLastD [], x.num)))) (objF given E) k := by
 have s0 : SortedA ([] : CM) := List.Pairwise.nil
 rw [behS_put (putS_srt s0 _ _), behS_put s0, behS_nil, obj_ren h hx hq hqn hpq hqd]
 have hins : ¬ (rowD (insE (toE E x.path q) (q.getLastD [], x.num))).length = 1 := fun e => by
  have := (rowD_one _).1 e
  have := congrArg List.length this
  rw [insE_len] at this
  simp at this
 by_cases h1 : k = ((64 * numP E q.dropLast : Nat) : Int)
 ·rw [if_pos h1, if_pos h1, if_neg (fun hh => hins hh.2)]
 ·rw [if_neg h1, if_neg h1]
  by_cases h2 : k = ((64 * numP E x.path.dropLast : Nat) : Int)
  ·rw [if_pos h2, if_pos h2, ← h2]
  ·rw [if_neg h2, if_neg h2]
section
open Go.Maps Go.Sort Go.Shelf
attribute [local go_sem] Oper.semAt_some
def enV (x : En) : Value := .agg #[S x.1, I x.2]
def enD (x : En) : DataW Unit := .agg [.lit (.string x.1), .lit (.int .i64 x.2)]
def enL : List Value → Option (DataW Unit × List MemPlace)
 | [.string s, .int .i64 a] => some (.agg [.lit (.string s.data.toList), .lit (.int .i64 a)], [])
 | _ => none
def enR : Value → Option (DataW Unit × List MemPlace)
 | .agg cs => enL cs.toList
 | _ => none
theorem enR_mk (x : En) : enR (enV x) = some (enD x, []) := rfl
theorem enR_inv : ∀ v x ps, enR v = some (enD x, ps) → v = enV x := by
 intro v c ps h
 unfold enR at h
 split at h
 ·next cs =>
  unfold enL at h
  split at h
  ·next s a heq =>
   obtain ⟨s⟩ := s
   obtain ⟨l⟩ := cs
   simp only at heq
   subst heq
   simp only [enD, Option.some.injEq, Prod.mk.injEq, DataW.agg.injEq, List.cons.injEq, DataW.lit.injEq, Lit.string.injEq, Lit.int.injEq, true_and, and_true] at h
   obtain ⟨⟨h1, h2⟩, _⟩ := h
   unfold enV
   rw [← h1, ← h2]
  ·cases h
 ·cases h
abbrev EMapAt := AMapAt enR enD
theorem EMapAt.store {w : World} {mb : Nat} {M : List (Int × En)} (h : EMapAt w mb M) (hn : M.length < 100000) {k : Int} (hk : I64 k) (c : En) :
  ∃ w', (Instr.mapUpdate 189 (.map (some mb)) (I k) (enV c)).run Tryz.prog w = .ok () w' ∧ EMapAt w' mb (insA (delA M k) k c) ∧ Kept [mb] w w' :=
 AMapAt.store h Tryz.underlying189 (by unfold maxLen; omega) hk (enR_mk c)
def ValsOf (M : List (Int × En)) (ys : List En) : Prop := ys.length = M.length ∧ ∀ e, e ∈ ys ↔ ∃ k, findA M k = some e
theorem vals_all {M : List (Int × En)} (hs : SortedA M) {D0 : DataW Unit} {w : World} {b : Nat} (hown : w.ownsMap Tryz.prog 3 enR b M.length D0) (hhas : ∀ k, Maps.has D0 (KL k) = (findA M k).isSome) {ps : List (Int × En)} (hp : (ps.map (·.1)).Perm (intKeys D0)) (hV : ∀ p ∈ ps, findA M p.1 = some p.2) : ValsOf M (ps.map (·.2)) := by
 have hq : (M.map (·.1)).Perm (intKeys D0) := by
  obtain ⟨es, hD, hpw, _⟩ := hown.entries int_law
  obtain ⟨es', hD', hko⟩ := hown.keysOf
  obtain rfl : es = es' := by rw [hD] at hD'; simpa using hD'
  subst hD
  refine perm_intKeys hpw (fun p hp => by obtain ⟨v, hv⟩ := hko p hp; obtain ⟨x, _, hx, _⟩ := Maps.keyOf_i64 Tryz.underlying3 hv; exact ⟨x, hx⟩) (List.pairwise_map.2 (hs.imp fun {a b} hab => by omega)) (fun x => ?_)
  rw [mem_find]
  exact Eq.to_iff (congrArg (· = true) (hhas x).symm)
 have hr := hp.trans hq.symm
 refine ⟨by simpa using hr.length_eq, fun e => ?_⟩
 constructor
 ·intro he
  obtain ⟨p, hp, rfl⟩ := List.mem_map.1 he
  exact ⟨p.1, hV p hp⟩
 ·rintro ⟨k, hk⟩
  have h1 : k ∈ M.map (·.1) := by rw [mem_find, hk]; rfl
  obtain ⟨p, hp, hpk⟩ := List.mem_map.1 (hr.mem_iff.2 h1)
  have h2 := hV p hp
  rw [hpk, hk] at h2
  exact List.mem_map.2 ⟨p, hp, (Option.some.inj h2).symm⟩
theorem evals1_in (n l Bm b : Nat) (hn : 1 ≤ n) (M : List (Int × En)) (J Jx : List En → World → Prop)
  (W : World) (hJ : AbidesFrom W.heap.size J)
  (hY : ∀ pre x W, J pre W → pre.length < M.length → YieldAt Fence.wide (n - 1) Tryz.prog l #[enV x] W fun e W' => (e = .returned (.bool true) ∧ J (pre ++ [x]) W' ∧ KeepsWalks W W') ∨ (e = .returned (.bool false) ∧ Jx (pre ++ [x]) W'))
  (hm : W.cell? ⟨Bm, 0, none⟩ = some (.map (some b))) (hM : EMapAt W b M) (h0 : J [] W) :
  CallsIn Fence.wide n Tryz.prog 156 #[.func (.yield l) #[] #[], .pointer (some ⟨Bm, 0, none⟩)] W fun e W' => (∃ v, e = .returned v) ∧
   ((∃ ys, ValsOf M ys ∧ J ys W') ∨ (∃ pre, True ∧ Jx pre W')) := by
 obtain ⟨D0, hown, hsz, hhas, hat0⟩ := hM.own
 have hsrt := hM.srt
 clear hM
 refine callsIn_of_wp Tryz.func156 rfl trivial ?_ rfl
 simp only [Tryz.ntmps156, List.size_toArray, List.length_cons, List.length_nil, Nat.reduceAdd, Nat.reduceSub, Array.replicate_succ, Array.replicate_zero, List.push_toArray, List.append_toArray, List.nil_append, List.cons_append]
 gi_wp2_with (first
  | (gi_at_range; refine wpListIn_range_own _ rfl _ 189 rfl 3 113 int_law Tryz.underlying189 _ b M.length _ rfl hown ?_; intro w0 hrg0 hg0 hs0)
  | gi_in)
 go_frame
 gi_loopw [4] (fun _ wr => ∃ (left : Lit → Bool) (cnt : Nat) (ps : List (Int × En)), wr.ranges Tryz.prog 3 enR b W.heap.size M.length D0 left cnt ∧ ps.length + cnt ≤ Maps.size D0 ∧ CollectedI D0 left (ps.map (·.1)) ∧ (∀ p ∈ ps, findA M p.1 = some p.2) ∧ J (ps.map (·.2)) wr)
  (fun _ wr => wr.rangeLeft b W.heap.size)
 case atStart =>
  exact ⟨_, _, [], hrg0, by simp, CollectedI.start D0, by simp, hJ [] W w0 none h0 hg0 (fun r e => by cases e)⟩
 case round =>
  obtain ⟨left, cnt, ps, hrg, hcs, hC, hV, hJs⟩ := hrel
  gi_wp2_with (first
   | (gi_at_next; refine wpListIn_next_ranges _ rfl _ rfl 3 int_law enR encZ id (fun key kl hk => by obtain ⟨x, hx, _⟩ := Maps.keyOf_i64 Tryz.underlying3 hk; exact ⟨x, hx⟩) (fun v _ _ => ⟨v, rfl⟩) b W.heap.size M.length _ _ _ rfl hrg ?_ ?_)
   | gi_in)
  ·intro hc0 hl0
   have HF : Hid (ValsOf M (ps.map (·.2))) := Lib.hid (vals_all hsrt hown hhas (hC.perm hown int_law Tryz.underlying3 hl0) hV)
   have HJJ := Lib.hid hJs
   clear hJs hC hV
   gi_wp2
   go_end0
   exact ⟨⟨_, rfl⟩, .inl ⟨_, HF.out, HJJ.out⟩⟩
  ·intro x c kl yd yp w2 cnt2 hkey hlk hv hat hrg2 hlt hg2 hs2 hen
   obtain ⟨x', ex, rfl, _⟩ := Maps.keyOf_i64 Tryz.underlying3 hkey
   obtain rfl : x = x' := encZ_inj ex
   have hC2 : CollectedI D0 (fun z => left z && !z.sameKey (.int .i64 x)) (ps.map (·.1) ++ [x]) := hC.step hlk hat
   obtain ⟨y, hy⟩ : ∃ y, findA M x = some y := by
    have h1 := ((hC2.2 x).1 (by simp)).1
    rw [hhas x] at h1
    exact Option.isSome_iff_exists.1 h1
   have hyd : yd = enD y := (hat (enD y)).symm.trans (hat0 x y hy (enD y))
   subst hyd
   obtain rfl : c = enV y := enR_inv _ _ _ hv
   have hJ2 : J (ps.map (·.2)) w2 := hJ _ wr w2 (some W.heap.size) hJs hg2 (fun r e => by cases e; exact ⟨Nat.le_refl _, hrg.iter_walk⟩)
   have hJ3 := hJ _ w2 (w2.alloc (Obj.cells #[S y.1, I y.2] 113)) none hJ2 (World.grownBy_alloc _ _ _) (fun r e => by cases e)
   obtain ⟨fn, tmps, assign, body, hyy, hR⟩ := hY (ps.map (·.2)) y _ hJ3 (by rw [List.length_map]; omega)
   have hrg3 := hrg2.of_walks (KeepsOthers.alloc w2 (Obj.cells #[S y.1, I y.2] 113)).walks
   have hps : (ps ++ [(x, y)]).map (·.1) = ps.map (·.1) ++ [x] := by rw [List.map_append]; rfl
   have hps2 : (ps ++ [(x, y)]).map (·.2) = ps.map (·.2) ++ [y] := by rw [List.map_append]; rfl
   have HR := Lib.hid hR
   have HS := Lib.hid (And.intro hrg3 (And.intro hrg (And.intro hlt (And.intro hC2 (And.intro hV (And.intro hy (And.intro hps (And.intro hps2 hcs))))))))
   unfold enV at hyy hen
   clear hs2 hR hrg3 hrg hlt hC2 hV hy hps hps2 hcs hJ2 hJ3 hJs hC hg2 hv hat hkey hlk hrg2
   gi_wp2
   refine HR.out.mono ?_
   rintro e W3 (⟨rfl, hJ3, hk3⟩ | ⟨rfl, hJx3⟩)
   ·have HK := Lib.hid (And.intro hJ3 hk3)
    clear hJ3 hk3
    gi_wp2
    obtain ⟨hrg3, hrg, hlt, hC2, hV, hy, hps, hps2, hcs⟩ := HS.out
    have hrg4 := hrg3.of_walks HK.out.2
    go_roundw
    case rel =>
     refine ⟨_, cnt2, ps ++ [(x, y)], hrg4, by simp; omega, by rw [hps]; exact hC2, fun p hp => ?_, by rw [hps2]; exact HK.out.1⟩
     rcases List.mem_append.1 hp with hp | hp
     ·exact hV p hp
     ·rw [List.mem_singleton.1 hp]; exact hy
    case measure => rw [hrg4.left_eq, hrg.left_eq]; exact hlt
   ·have HK := Lib.hid hJx3
    clear hJx3
    gi_wp2
    refine bodyPost_ret (results_none rfl _ _ _) rfl ?_
    exact ⟨⟨_, rfl⟩, .inr ⟨_, trivial, HK.out⟩⟩
theorem evals_in (n : Nat) (mb : Option Nat) (w : World) :
  CallsIn Fence.wide n Tryz.prog 125 #[.map mb] w fun e w' => e = .returned (.func (.func 156) #[] #[.pointer (some ⟨w.heap.size, 0, none⟩)]) ∧ w' = w.alloc (.cells #[.map mb] 189) := by
 refine callsIn_of_wp Tryz.func125 rfl trivial ?_ rfl
 simp only [Tryz.ntmps125, List.size_toArray, List.length_cons, List.length_nil, Nat.reduceAdd, Nat.reduceSub, Array.replicate_succ, Array.replicate_zero, List.push_toArray, List.append_toArray, List.nil_append, List.cons_append]
 gi_wp2
 go_ret
 exact ⟨rfl, rfl⟩
theorem evals_stops (n Bm b : Nat) (hn : 1 ≤ n) (M : List (Int × En)) (w : World) (hBm : Bm < w.heap.size) (hm : w.cell? ⟨Bm, 0, none⟩ = some (.map (some b))) (hM : EMapAt w b M) :
  SeqStopsK Fence.wide n Tryz.prog 156 #[.pointer (some ⟨Bm, 0, none⟩)] (fun x : En => #[enV x]) KeepsWalks (ValsOf M) (fun _ => True) M.length w := fun l J Jx W hW hJ _ hY h0 => by
 have hbl := hM.lt
 obtain ⟨D, h1, h2⟩ := hM.own
 exact evals1_in n l Bm b hn M J Jx W hJ hY ((hW.cell (p := ⟨Bm, 0, none⟩) hBm).trans hm) ⟨⟨D, ownsMap_block h1 (hW.block b hbl), h2⟩, hM.srt⟩ h0
end
section
open Go.Maps Go.Sort Go.Shelf
attribute [local go_sem] Oper.semAt_some
def BoxE (W : World) (o : Nat) (B : Nat) (pre : List En) : Prop := ∃ v, W.heap[o]? = some (.cells #[v] 86 (0, 0)) ∧ EnOwn W B v pre
theorem boxE_grown {W W' : World} {row : Option Nat} (hg : W.grownBy W' row) (hr : ∀ r, row = some r → ∃ o : Obj, W.heap[r]? = some o ∧ o.isCells = false) {o B : Nat} {pre : List En} (h : BoxE W o B pre) : BoxE W' o B pre := by
 obtain ⟨v, h1, h2⟩ := h
 exact ⟨v, grown_cells hg hr h1, own_grown hg hr h2⟩
theorem boxE_own (a : World) (o B C : Nat) (hC : a.heap.size ≤ C) : OwnFrom C (fun (pre : List En) W => BoxE W o B pre ∧ Kept [] a W) :=
 fun s W W' row hs hg hr => ⟨boxE_grown hg (fun r e => (hr r e).2) hs.1, kept_from hs.2 hg (fun r e => Nat.le_trans hC (hr r e).1)⟩
def varE (sv : Value) (Bs : Nat) (x : En) (a' : Act) (W : World) : Prop := ∃ b, a' = { tmps := #[.slice none 0 0, sv, Ptr Bs, undef, .slice none 0 0, .pointer (some ⟨b, 0, none⟩), sv, .agg #[S x.1, I x.2], undef, undef, undef, undef, undef], defers := [] } ∧ W.heap[b]? = some (.cells #[S x.1, I x.2] 113 (0, 0))
theorem eappend_in (w : World) (gf : Nat) (lb : Array Value) (eg : ∀ args w, (callFunc gf args).run Tryz.prog w = .ok (.enter gf args) w) (Sq : List En → Prop) (N : Nat) (hN : N ≤ 1000)
    (hst : SeqStopsK Fence.wide 7 Tryz.prog gf lb (fun x : En => #[enV x]) KeepsWalks Sq (fun _ => True) N (w.alloc (.cells #[.slice none 0 0] 86))) :
    CallsIn Fence.wide 8 Tryz.prog 155 #[.slice none 0 0, .func (.func gf) #[] lb] w fun e w' => ∃ v ys, e = .returned v ∧ Sq ys ∧ EnOwn w' w.heap.size v ys ∧ Kept [] w w' := by
  obtain ⟨i0, hi, hz0, hz1, hz2⟩ := info_parts ent_info
  have k2 : Kept [] w (w.alloc (.cells #[.slice none 0 0] 86)) := (Kept.refl _ _).alloc _
  have hbx : BoxE (w.alloc (.cells #[.slice none 0 0] 86)) w.heap.size w.heap.size [] :=
    ⟨.slice none 0 0, heap_new w _, rfl, .inl ⟨rfl, rfl⟩⟩
  have HST := Lib.hid hst
  have HEG := Lib.hid eg
  have H0 := Lib.hid (And.intro hbx k2)
  have HI := Lib.hid (And.intro hi (And.intro hz0 (And.intro hz1 hz2)))
  clear hst hbx k2 hi hz0 hz1 hz2 eg
  refine callsIn_of_wp_marks Tryz.func155 rfl trivial ?_ rfl
  simp only [Tryz.ntmps155, List.size_toArray, List.length_cons, List.length_nil, Nat.reduceAdd, Nat.reduceSub, Array.replicate_succ, Array.replicate_zero, List.push_toArray, List.append_toArray, List.nil_append, List.cons_append]
  gi_wp2
  refine wpIn_rangeFunc_ownH rfl (by decide) (gf := gf) (lb := lb) rfl trivial HEG.out HST.out walksK_t (fun W l o o' h1 h2 h3 h4 => walksK_b (w := w) W l o o' (by rw [World.size_alloc] at h1; omega) h2 h3 h4) (Below.refl _ _) (fun _ => rfl)
    (fun pre W => BoxE W w.heap.size w.heap.size pre ∧ Kept [] w W) (fun _ _ _ => False) (boxE_own w _ _ _ (by simp)) (fun _ _ _ _ _ h _ _ => h) H0.out
    (fun x a' W => varE (.func (.func gf) #[] lb) w.heap.size x a' W) (fun x a' _ W W' row hs hg hr => by
      obtain ⟨b, h1, h2⟩ := hs
      exact ⟨b, h1, grown_cells hg (fun r e => (hr r e).2) h2⟩) ?assign ?body ?done ?stop
  case assign =>
    intro l pre x W K hI hK
    have hK' := Lib.hid hK
    have HII := Lib.hid hI
    clear hK hI
    unfold enV
    gi_wp2
    have hg := World.grownBy_alloc W (Obj.cells #[S x.1, I x.2] 113) none
    refine hK'.out _ _ ((KeepsOthers.alloc W _).from _) (KeepsOthers.alloc W _).walks ⟨boxE_grown hg (fun r e => by cases e) HII.out.1, HII.out.2.alloc _⟩ ⟨W.heap.size, rfl, heap_new W _⟩
  case body =>
    rintro l pre x a' W hl hr ⟨⟨v, hb, own⟩, k⟩ ⟨vb, rfl, hvb⟩ hlen
    have c0 := cell_at hb 0
    have f0 := free_at hb 0
    have x0 := cell_at hvb 0
    have x1 := cell_at hvb 1
    simp only [List.getElem?_toArray, List.getElem?_cons_zero, List.getElem?_cons_succ] at c0 x0 x1
    obtain ⟨hi, hz0, hz1, hz2⟩ := HI.out
    have hol := lt_of_block hb
    have HW := Lib.hid (And.intro hb (And.intro own k))
    have hpl : pre.length ≤ 1000 := by omega
    clear hb k hr hvb
    gi_wp2_with (first
      | (gi_at_builtin
         refine wpListIn_append_own _ rfl (.tmp 8) (.tmp 10) 86 rfl w.heap.size 113 i0 (.agg #[S [], I 0]) 2 24 Tryz.underlying86 hi hz0 hz1 hz2 rfl (by decide) v _ _ rfl (own_kept own ((Kept.refl [] W).alloc _) (by simp)) ⟨W.heap.size, 0, none⟩ 1 1 [S x.1, I x.2] rfl rfl (World.news_of_block (heap_new W _)) (by intro u hu; simp at hu; rcases hu with rfl | rfl <;> rfl) (by unfold maxLen; omega) (by omega) (by rw [World.size_alloc]; have := HW.out.2.2.size; omega) ?_
         intro v' w3 own3 hg3 hnil3
         have hne : ∀ q, v.ownBlock = some q → q ≠ w.heap.size := fun q hq e => by
           subst e
           rcases HW.out.2.1.2 with ⟨rfl, _⟩ | ⟨g, cap, cur, rfl, hbg, hg, _⟩
           · cases hq
           · have : g = w.heap.size := by simpa [Value.ownBlock] using hq
             subst this
             rw [HW.out.1] at hg
             cases hg
         have hb3 : w3.heap[w.heap.size]? = some (.cells #[v] 86 (0, 0)) := (hg3.block _ (by rw [World.size_alloc]; omega) (fun e => hne _ e.symm rfl)).trans (((Kept.refl [] W).alloc _).at HW.out.1 (by simp))
         have c3 := cell_at hb3 0
         simp only [List.getElem?_toArray, List.getElem?_cons_zero] at c3
         obtain ⟨p3, cp3, rfl⟩ := own_form own3
         have f3 := free_at hb3 0
         have H3 := Lib.hid (And.intro own3 (And.intro hg3 (And.intro hb3 hne)))
         clear own3 hg3 hnil3 hb3 hne c0 f0
         go_frame))
    obtain ⟨own3, hg3, hb3, hne⟩ := H3.out
    obtain ⟨hb, own, k⟩ := HW.out
    have hcells : ∀ (j : Nat) (o : Obj), v.ownBlock = some j → (W.alloc (Obj.cells #[S x.1, I x.2] 113)).heap[j]? = some o → o.isCells = true := by
      intro j o hj ho
      rcases own.2 with ⟨rfl, _⟩ | ⟨g, cap, cur, rfl, hbg, hg, _⟩
      · cases hj
      · have : g = j := by simpa [Value.ownBlock] using hj
        subst this
        rw [((Kept.refl [] W).alloc (Obj.cells #[S x.1, I x.2] 113)).at hg (by simp)] at ho
        cases ho; rfl
    have hne3 : ∀ q, Value.ownBlock (.slice p3 (pre.length + 1) cp3) = some q → q ≠ w.heap.size := fun q hq e => by
      subst e
      rcases own3.2 with ⟨e1, _⟩ | ⟨g, cap, cur, e1, hbg, hg, _⟩
      · cases e1
      · have : g = w.heap.size := by rw [e1] at hq; simpa [Value.ownBlock] using hq
        subst this
        rw [hb3] at hg
        cases hg
    have hk4 : Kept [w.heap.size] w3 (w3.setCell ⟨w.heap.size, 0, none⟩ (.slice p3 (pre.length + 1) cp3)) := (Kept.refl _ _).setCell (.inl (by simp)) _
    have hkk : Kept [] w (w3.setCell ⟨w.heap.size, 0, none⟩ (.slice p3 (pre.length + 1) cp3)) := ((k.alloc (Obj.cells #[S x.1, I x.2] 113)).new (kept_grown hg3) (fun q hq => (own_lt own q (by simpa using hq)).1)).new hk4 (by intro q hq; simp at hq; omega)
    have hko : KeepsOthers W (w3.setCell ⟨w.heap.size, 0, none⟩ (.slice p3 (pre.length + 1) cp3)) := (KeepsOthers.alloc W _).trans ((KeepsOthers.of_grownBy hg3 hcells).trans (KeepsOthers.setCell _ _ _))
    refine ⟨hko.from _, hko.walks, ⟨_, by have := heap_setCell_at hb3 0 (.slice p3 (pre.length + 1) cp3); simpa using this, ?_⟩, hkk⟩
    unfold EnOwn
    rw [List.length_append, enCells_append]
    exact own_kept own3 hk4 (fun q hq hm => by simp at hm; exact hne3 q hq hm)
  case done =>
    rintro D ys W hD hS ⟨⟨v, hb, own⟩, k⟩ hK
    have c0 := cell_at hb 0
    simp only [List.getElem?_toArray, List.getElem?_cons_zero] at c0
    have HW := Lib.hid (And.intro hb (And.intro own (And.intro k hS)))
    clear hb own k hS
    gi_wp2
    refine ⟨by simp, .inl ⟨_, _, rfl, run_takeDeferred hK, ?_⟩⟩
    obtain ⟨hb, own, k, hS⟩ := HW.out
    have hg := grownBy_putObj' W D (.deferred none)
    have hrow : ∀ r, some D = some r → ∃ o : Obj, W.heap[r]? = some o ∧ o.isCells = false := fun r e => by cases e; exact ⟨_, hK, rfl⟩
    refine ⟨_, results_tmp rfl _ _ _, v, ys, rfl, hS, own_grown hg hrow own, kept_from k hg (fun r e => by cases e; rw [World.size_alloc] at hD; omega)⟩
  case stop =>
    rintro D c pre W _ _ h _
    exact h.elim
theorem evals_any (w : World) (mb : Nat) (M : List (Int × En)) (hM : EMapAt w mb M) (hl : M.length ≤ 1000) :
  Calls Tryz.prog 124 #[.func (.func 156) #[] #[.pointer (some ⟨w.heap.size, 0, none⟩)]] (w.alloc (.cells #[.map (some mb)] 189)) fun e w' => ∃ v ys, e = .returned v ∧ ValsOf M ys ∧ EnsAt w' v ys ∧ Kept [] w w' := by
 have k1 : Kept [] w (w.alloc (.cells #[.map (some mb)] 189)) := (Kept.refl _ _).alloc _
 have hb := heap_new w (.cells #[.map (some mb)] 189)
 obtain ⟨W, hW⟩ : ∃ W, w.alloc (.cells #[.map (some mb)] 189) = W := ⟨_, rfl⟩
 rw [hW] at k1 hb ⊢
 have hlt := lt_of_block hb
 have k2 : Kept [] W (W.alloc (.cells #[.slice none 0 0] 86)) := (Kept.refl _ _).alloc _
 have hst := evals_stops 7 w.heap.size mb (by decide) M (W.alloc (.cells #[.slice none 0 0] 86)) (by rw [World.size_alloc]; omega) (k2.cellOf (cell_at hb 0)) ((hM.same k1).same k2)
 have HA := Lib.hid (eappend_in W 156 #[.pointer (some ⟨w.heap.size, 0, none⟩)] (enters_of Tryz.func156 (by kernel_rfl) rfl) (ValsOf M) M.length hl hst)
 have K1 := Lib.hid k1
 clear hst k1 k2 hb hW hM
 refine (callsIn_wide (n := 9)).1 ?_
 refine callsIn_of_wp Tryz.func124 rfl trivial ?_ rfl
 simp only [Tryz.ntmps124, List.size_toArray, List.length_cons, List.length_nil, Nat.reduceAdd, Nat.reduceSub, Array.replicate_succ, Array.replicate_zero, List.push_toArray, List.append_toArray, List.nil_append, List.cons_append]
 gi_wp2
 refine ⟨trivial, ?_⟩
 refine HA.out.mono ?_
 rintro e w' ⟨v, ys, rfl, hS, own, k⟩
 have HR := Lib.hid (And.intro hS (And.intro own k))
 clear hS own k
 gi_wp2
 go_ret
 exact ⟨v, ys, rfl, HR.out.1, HR.out.2.1.at, K1.out.trans' HR.out.2.2⟩
theorem evalues_any (mb : Option Nat) (w : World) :
  Calls Tryz.prog 125 #[.map mb] w fun e w' => e = .returned (.func (.func 156) #[] #[.pointer (some ⟨w.heap.size, 0, none⟩)]) ∧ w' = w.alloc (.cells #[.map mb] 189) :=
 callsIn_wide.1 (evals_in 5 mb w)
end
theorem kid_num {given : Nat} {E : List Nd} (h : WF given E) {p p' : List Nm} {e e' : En} (h1 : e ∈ kids E p) (h2 : e' ∈ kids E p') (hn : e.2 = e'.2) : e = e' := by
 obtain ⟨x, hx, a1, a2⟩ := mem_kids.1 h1
 obtain ⟨y, hy, b1, b2⟩ := mem_kids.1 h2
 have := num_eq h.nums hx hy (by rw [a2, b2, hn])
 subst this
 rw [a1] at b1
 have hl := congrArg List.getLast? b1
 simp at hl
 exact Prod.ext hl hn
theorem nodup_len : ∀ (a b : List Int), a.Nodup → (∀ x ∈ a, x ∈ b) → a.length ≤ b.length
 | [], b, _, _ => by simp
 | x :: a, b, h, hs => by
  obtain ⟨h1, h2⟩ := List.nodup_cons.1 h
  have hb := hs x (by simp)
  have hpos : 0 < b.length := List.length_pos_iff.2 (fun e => by rw [e] at hb; cases hb)
  have := nodup_len a (b.erase x) h2 (fun y hy => by
   have hne : y ≠ x := fun e => h1 (e ▸ hy)
   exact (List.mem_erase_of_ne hne).2 (hs y (by simp [hy])))
  rw [List.length_erase_of_mem hb] at this
  simp only [List.length_cons]
  omega
def belowP (E : List Nd) (l : List En) (q : En) : Prop := ∃ e ∈ l, ∃ y ∈ E, y.num = e.2 ∧ q ∈ kids E y.path
def InvB (M : List (Int × En)) (P : En → Prop) : Prop := ∀ k e, findA M k = some e ↔ k = (e.2 : Int) ∧ P e
theorem InvB.nil : InvB [] (fun _ => False) := by
 intro k e
 exact ⟨fun h => (by cases h), fun h => h.2.elim⟩
theorem InvB.imp {M : List (Int × En)} {P Q : En → Prop} (h : InvB M P) (hq : ∀ e, P e ↔ Q e) : InvB M Q := fun k e => by rw [h k e, hq]
theorem InvB.ins {given : Nat} {E : List Nd} (hw : WF given E) {M : List (Int × En)} (hs : SortedA M) {P : En → Prop} (h : InvB M P) (hP : ∀ q, P q → ∃ p, q ∈ kids E p) {c : En} {p : List Nm} (hc : c ∈ kids E p) : InvB (insA (delA M (c.2 : Int)) (c.2 : Int) c) (fun q => P q ∨ q = c) := fun k e => by
 have hn : findA (delA M (c.2 : Int)) (c.2 : Int) = none := by rw [find_del hs, if_pos rfl]
 rw [find_ins _ _ _ hn, find_del hs]
 by_cases hk : k = (c.2 : Int)
 ·rw [if_pos hk]
  constructor
  ·intro e1
   have := Option.some.inj e1
   subst this
   exact ⟨hk, .inr rfl⟩
  ·rintro ⟨e1, h2 | h2⟩
   ·obtain ⟨p', hp'⟩ := hP e h2
    rw [kid_num hw hc hp' (by omega)]
   ·rw [h2]
 ·rw [if_neg hk, if_neg hk, h k e]
  constructor
  ·rintro ⟨a, b⟩; exact ⟨a, .inl b⟩
  ·rintro ⟨a, b | b⟩
   ·exact ⟨a, b⟩
   ·exact absurd (by rw [a, b]) hk
theorem InvB.len {E : List Nd} {M : List (Int × En)} (hs : SortedA M) {P : En → Prop} (h : InvB M P) (hP : ∀ q, P q → ∃ p, q ∈ kids E p) : M.length ≤ E.length := by
 have h1 : (M.map (·.1)).Nodup := by
  unfold List.Nodup
  rw [List.pairwise_map]
  exact hs.imp fun {a b} hab => by omega
 have := nodup_len (M.map (·.1)) (E.map fun y => (y.num : Int)) h1 (fun k hk => by
  rw [mem_find] at hk
  obtain ⟨e, he⟩ := Option.isSome_iff_exists.1 hk
  obtain ⟨e1, e2⟩ := (h k e).1 he
  obtain ⟨p, hp⟩ := hP e e2
  obtain ⟨y, hy, _, hn⟩ := mem_kids.1 hp
  exact List.mem_map.2 ⟨y, hy, by rw [hn, e1]⟩)
 simpa using this
theorem map_nocell {w : World} {mb : Nat} {M : List (Int × En)} (h : EMapAt w mb M) {o : Nat} : w.cell? ⟨mb, o, none⟩ = none := by
 obtain ⟨D, ⟨es, clock, hb, _⟩, _⟩ := h.own
 unfold World.cell?
 simp only
 rw [hb]
theorem below_kid {E : List Nd} {l : List En} (q : En) (h : belowP E l q) : ∃ p, q ∈ kids E p := by
 obtain ⟨e, he, y, hy, h1, h2⟩ := h
 exact ⟨_, h2⟩
theorem node_dir {w : World} {v : Value} {given : Nat} {E : List Nd} (hw : WF given E) {p : List Nm} (hp : p ≠ []) (h : NodeP w v E p) : ∃ d b, (∀ W : World, (Instr.typeAssert v 99 87 true).run Tryz.prog W = .ok (.tuple #[d, .bool b]) W) ∧ EnsAt w d (kids E p) := by
 rcases h with ⟨hd, d, rfl, he⟩ | ⟨hd, x, hx, rfl⟩
 ·exact ⟨d, true, fun W => by kernel_rfl, he⟩
 ·refine ⟨.slice none 0 0, false, fun W => by kernel_rfl, ?_⟩
  have := kids_file hw (ent_mem hx).1 (by rw [← isDirP_of hw hx]; exact hd)
  rw [(ent_mem hx).2] at this
  rw [this]
  exact EnsAt.nil w
theorem below_any (w : World) (fb sb : Nat) (V : OM) (given : Nat) (E : List Nd) (h : FR w fb sb V given E) (hEl : E.length ≤ 1000) (dv : Value) (l : List En) (hl : EnsAt w dv l) (hll : l.length ≤ 1000) (hlE : ∀ e ∈ l, ∃ y ∈ E, y.num = e.2) :
  Calls Tryz.prog 93 #[Ptr fb, dv] w fun e w' => (∃ v ys, e = .returned v ∧ EnsAt w' v ys ∧ ys.length ≤ 1000 ∧ ∀ q, q ∈ ys ↔ belowP E l q) ∧ Kept [] w w' := by
 have hND : ∀ (j : Nat) (hj : j < l.length), ∃ p, p ≠ [] ∧ (∀ y ∈ E, y.num = l[j].2 → y.path = p) ∧ (∃ y ∈ E, y.num = l[j].2) ∧ ∀ W, Kept [] w W → Calls Tryz.prog 89 #[Ptr fb, I l[j].2] W fun e w' => (∃ v, e = .returned v ∧ NodeP w' v E p) ∧ Kept [] W w' := fun j hj => by
  obtain ⟨y, hy, hn⟩ := hlE _ (List.getElem_mem hj)
  have he := ent_of h.wf.paths hy
  have hp := (h.wf.form y hy).1
  refine ⟨y.path, hp, fun z hz hzn => by rw [num_eq h.wf.nums hz hy (by rw [hzn, hn])], ⟨y, hy, hn⟩, fun W k => ?_⟩
  have := node_any W fb sb V given E (h.same k) y.path (.inr (by rw [he]; rfl))
  rw [numP_of he hp, hn] at this
  exact this
 have HND := Lib.hid hND
 have H := Lib.hid h
 have hmm := @run_makeMap Tryz.prog
 obtain ⟨p, c, b, rfl, hcp, hpp, hcells⟩ := hl
 have HC := Lib.hid (And.intro hpp hcells)
 have hlI : (l.length : Int) ≤ 1000 := by omega
 obtain ⟨mb, hmb⟩ : ∃ mb, w.heap.size = mb := ⟨_, rfl⟩
 have HS0 : Hid (EMapAt (w.alloc (.map #[] 0)) mb []) := Lib.hid (by rw [← hmb]; exact amap_made w)
 have HMB := Lib.hid hmb
 have HK0 : Hid (Kept [] w (w.alloc (.map #[] 0))) := Lib.hid ((Kept.refl [] w).alloc _)
 clear h hND hcp hpp hcells hlE
 go_enter Tryz.func93, Tryz.ntmps93
 go_wp2_with (fail)
 clear hmb
 go_loopw [15] (fun v15 wr => ∃ (j : Nat) (M : List (Int × En)), j ≤ l.length ∧ v15 = I j ∧ EMapAt wr mb M ∧ InvB M (belowP E (l.take j)) ∧ Kept [] w wr) (fun v15 _ => l.length - (intOf v15).toNat)
 case atStart => exact ⟨0, [], by omega, rfl, HS0.out, InvB.nil.imp (fun e => ⟨fun h => h.elim, fun ⟨e', h, _⟩ => by cases h⟩), HK0.out⟩
 case round =>
  obtain ⟨j, M, hj, rfl, hM, hI, kr⟩ := hrel
  by_cases hlt : j < l.length
  ·have hltI : (j : Int) < l.length := by omega
   obtain ⟨hpd, hcells⟩ := HC.out
   have hpe := hpd (by intro h; subst h; simp at hlt)
   subst hpe
   obtain ⟨d0, d1⟩ := hcells j hlt
   have e0 := kr.cellOf d0
   have e1 := kr.cellOf d1
   obtain ⟨pp, hpp0, hppE, hppX, hnode⟩ := HND.out j hlt
   obtain ⟨⟨nm, num⟩, hx⟩ : ∃ x, l[j] = x := ⟨_, rfl⟩
   rw [hx] at e0 e1 hnode hppE hppX
   simp only at e0 e1 hnode hppE hppX
   have hk2 := (Kept.refl [] wr).alloc (Obj.cells #[S nm, I num] 113)
   obtain ⟨W2, hW2⟩ : ∃ W2, wr.alloc (Obj.cells #[S nm, I num] 113) = W2 := ⟨_, rfl⟩
   have n2 := heap_new wr (Obj.cells #[S nm, I num] 113)
   rw [hW2] at hk2 n2
   have c2 := cell_at n2 1
   simp only [List.getElem?_toArray, List.getElem?_cons_zero, List.getElem?_cons_succ] at c2
   have HN2 := Lib.hid (hnode W2 (kr.trans' hk2))
   have HJ := Lib.hid (And.intro hM (And.intro hI (And.intro kr (And.intro hk2 (And.intro hpp0 (And.intro hppE (And.intro hppX hx)))))))
   clear hM hI kr hk2 n2 hpd hcells d0 d1 hx hnode hpp0 hppE hppX
   go_wp2_with (first | (simp only [hW2]; done) | (simp only [hW2]))
   refine HN2.out.mono ?_
   rintro e w3 ⟨⟨v, rfl, hv⟩, k3⟩
   obtain ⟨d, bb, hta, hens⟩ := node_dir H.out.wf HJ.out.2.2.2.2.1 hv
   obtain ⟨kl, hkl⟩ : ∃ kl, kids E pp = kl := ⟨_, rfl⟩
   have hkn : kl.length ≤ 6 := by rw [← hkl]; exact H.out.wf.few _
   rw [hkl] at hens
   obtain ⟨p2, c3, b2, rfl, hcp2, hpp2, hcells2⟩ := hens
   have hknI : (kl.length : Int) ≤ 6 := by omega
   have HL := Lib.hid (And.intro hkl (And.intro hkn (And.intro hpp2 hcells2)))
   have K3 := Lib.hid k3
   have hM3 : EMapAt w3 mb M := (HJ.out.1.same HJ.out.2.2.2.1).same k3
   have HM3 := Lib.hid hM3
   clear hM3 hv hkl hkn hpp2 hcells2 hcp2 k3 c2 e0 e1
   go_wp2_with (fail)
   go_loopw [29] (fun v29 wr => ∃ (i : Nat) (M2 : List (Int × En)), i ≤ kl.length ∧ v29 = I i ∧ EMapAt wr mb M2 ∧ InvB M2 (fun q => belowP E (l.take j) q ∨ q ∈ kl.take i) ∧ Kept [mb] w3 wr) (fun v29 _ => kl.length - (intOf v29).toNat)
   case atStart => exact ⟨0, M, by omega, rfl, HM3.out, HJ.out.2.1.imp (fun e => by simp), Kept.refl _ _⟩
   case round =>
    obtain ⟨i, M2, hi, rfl, hM2, hI2, kq⟩ := hrel
    by_cases hilt : i < kl.length
    ·have hiltI : (i : Int) < kl.length := by omega
     obtain ⟨hkl, hkn, hpp2, hcells2⟩ := HL.out
     have hpe2 := hpp2 (by intro h; subst h; simp at hilt)
     subst hpe2
     obtain ⟨d0, d1⟩ := hcells2 i hilt
     have hb2 : b2 ≠ mb := fun e => by
      rw [e, map_nocell HM3.out] at d0
      cases d0
     have e0 := kept_cell kq d0 (by simpa using hb2)
     have e1 := kept_cell kq d1 (by simpa using hb2)
     obtain ⟨⟨kn, ku⟩, hx⟩ : ∃ x, kl[i] = x := ⟨_, rfl⟩
     rw [hx] at e0 e1
     simp only at e0 e1
     have hmemk : (kn, ku) ∈ kids E pp := by rw [hkl, ← hx]; exact List.getElem_mem hilt
     have hkid := H.out.wf.kid H.out.gv hmemk
     have hPk : ∀ q, (belowP E (l.take j) q ∨ q ∈ kl.take i) → ∃ p, q ∈ kids E p := fun q hq => by
      rcases hq with hq | hq
      ·exact below_kid q hq
      ·exact ⟨pp, by rw [hkl]; exact List.mem_of_mem_take hq⟩
     have hlenM : M2.length ≤ 1000 := Nat.le_trans (hI2.len hM2.srt hPk) hEl
     have hk2 := (Kept.refl [] wr).alloc (Obj.cells #[S kn, I ku] 113)
     obtain ⟨W4, hW4⟩ : ∃ W4, wr.alloc (Obj.cells #[S kn, I ku] 113) = W4 := ⟨_, rfl⟩
     have n2 := heap_new wr (Obj.cells #[S kn, I ku] 113)
     rw [hW4] at hk2 n2
     have c20 := cell_at n2 0
     have c21 := cell_at n2 1
     simp only [List.getElem?_toArray, List.getElem?_cons_zero, List.getElem?_cons_succ] at c20 c21
     obtain ⟨w5, hrun, hM5, k5⟩ := EMapAt.store (hM2.same hk2) (by omega) (k := (ku : Int)) ⟨by omega, by omega⟩ (kn, ku)
     unfold enV at hrun
     simp only at hrun
     have hIn := hI2.ins H.out.wf hM2.srt hPk hmemk
     have HQ := Lib.hid (And.intro hM5 (And.intro k5 (And.intro hIn (And.intro hk2 (And.intro kq (And.intro hx hilt))))))
     clear hM2 hI2 kq hk2 n2 d0 d1 hM5 k5 hIn hx hmemk hkid hPk hlenM hkl hkn hpp2 hcells2 hb2
     go_wp2_with (first | (simp only [hW4]; done) | (simp only [hW4]))
     go_roundw
     case rel =>
      obtain ⟨hM5, k5, hIn, hk2, kq, hx, hilt⟩ := HQ.out
      refine ⟨i + 1, _, by omega, by go_num, hM5, hIn.imp (fun e => ?_), (kq.trans' (hk2.mono (by simp))).trans' k5⟩
      rw [List.take_add_one, List.getElem?_eq_getElem hilt, hx]
      simp [or_assoc]
     case measure => simp [intOf]; omega
    ·have hie : i = kl.length := by omega
     subst hie
     rw [List.take_length] at hI2
     have HQ := Lib.hid (And.intro hM2 (And.intro hI2 kq))
     clear hM2 hI2 kq hilt hi
     go_wp2_with (fail)
     go_roundw
     case rel =>
      obtain ⟨hM2, hI2, kq⟩ := HQ.out
      obtain ⟨hM, hI, kr, hk2, hpp0, hppE, hppX, hx⟩ := HJ.out
      refine ⟨j + 1, M2, by omega, by go_num, hM2, hI2.imp (fun e => ?_), (kr.trans' (hk2.trans' K3.out)).new kq (by intro y hy; simp at hy; have := HMB.out; omega)⟩
      rw [List.take_add_one, List.getElem?_eq_getElem hlt, hx]
      constructor
      ·rintro (⟨e', h1, h2⟩ | h1)
       ·exact ⟨e', List.mem_append.2 (.inl h1), h2⟩
       ·obtain ⟨y, hy, hyn⟩ := hppX
        exact ⟨(nm, num), by simp, y, hy, hyn, by rw [hppE y hy hyn, HL.out.1]; exact h1⟩
      ·rintro ⟨e', h1, y, hy, hyn, h2⟩
       rcases List.mem_append.1 h1 with h1 | h1
       ·exact .inl ⟨e', h1, y, hy, hyn, h2⟩
       ·have : e' = (nm, num) := by simpa using h1
        subst this
        rw [hppE y hy hyn, HL.out.1] at h2
        exact .inr h2
     case measure => simp [intOf]; omega
  ·have hje : j = l.length := by omega
   subst hje
   rw [List.take_length] at hI
   have hml : M.length ≤ 1000 := Nat.le_trans (hI.len hM.srt (fun q hq => below_kid q hq)) hEl
   have HV := Lib.hid (evalues_any (some mb) wr)
   have HCO := Lib.hid (evals_any wr mb M hM hml)
   have HK := Lib.hid (And.intro hI (And.intro kr hml))
   clear hM hI kr hml
   go_wp2_with (fail)
   refine HV.out.mono ?_
   rintro e w3 ⟨rfl, rfl⟩
   go_wp2_with (fail)
   refine HCO.out.mono ?_
   rintro e w4 ⟨v, ys, rfl, hys, hat, k4⟩
   have HR := Lib.hid (And.intro hys (And.intro hat k4))
   clear hys hat k4
   go_wp2_with (fail)
   go_ret
   obtain ⟨hys, hat, k4⟩ := HR.out
   obtain ⟨hI, kr, hml⟩ := HK.out
   refine ⟨⟨v, ys, rfl, hat, by rw [hys.1]; exact hml, fun q => ?_⟩, kr.trans' k4⟩
   rw [hys.2 q]
   constructor
   ·rintro ⟨k, hk⟩; exact ((hI k q).1 hk).2
   ·intro hq; exact ⟨(q.2 : Int), (hI _ q).2 ⟨rfl, hq⟩⟩
def depthF (E : List Nd) (p : List Nm) : Nat := (E.map fun x => if p.isPrefixOf x.path = true then x.path.length - p.length else 0).foldr max 0
theorem fold_max (l : List Nat) : (∀ x ∈ l, x ≤ l.foldr max 0) ∧ (l.foldr max 0 = 0 ∨ l.foldr max 0 ∈ l) := by
 induction l with
 | nil => simp
 | cons a l ih =>
  obtain ⟨h1, h2⟩ := ih
  have e : (a :: l).foldr max 0 = max a (l.foldr max 0) := rfl
  rw [e]
  refine ⟨fun x hx => ?_, ?_⟩
  ·rcases List.mem_cons.1 hx with rfl | hx
   ·exact Nat.le_max_left _ _
   ·exact Nat.le_trans (h1 x hx) (Nat.le_max_right _ _)
  ·by_cases hc : a ≤ l.foldr max 0
   ·rw [Nat.max_eq_right hc]
    exact h2.imp id (fun h => List.mem_cons_of_mem _ h)
   ·rw [Nat.max_eq_left (by omega)]
    exact .inr List.mem_cons_self
theorem depth_le {E : List Nd} {p : List Nm} {x : Nd} (hx : x ∈ E) {r : List Nm} (h : x.path = p ++ r) : r.length ≤ depthF E p := by
 have := (fold_max (E.map fun x => if p.isPrefixOf x.path = true then x.path.length - p.length else 0)).1 (if p.isPrefixOf x.path = true then x.path.length - p.length else 0) (List.mem_map.2 ⟨x, hx, rfl⟩)
 rw [if_pos (pre_iff.2 ⟨r, h⟩), h, List.length_append, Nat.add_sub_cancel_left] at this
 exact this
theorem depth_at (E : List Nd) (p : List Nm) : depthF E p = 0 ∨ ∃ x ∈ E, ∃ r, x.path = p ++ r ∧ r.length = depthF E p := by
 rcases (fold_max (E.map fun x => if p.isPrefixOf x.path = true then x.path.length - p.length else 0)).2 with h | h
 ·exact .inl h
 ·obtain ⟨x, hx, he⟩ := List.mem_map.1 h
  by_cases hp : p.isPrefixOf x.path = true
  ·rw [if_pos hp] at he
   obtain ⟨r, hr⟩ := pre_iff.1 hp
   rw [hr, List.length_append, Nat.add_sub_cancel_left] at he
   exact .inr ⟨x, hx, r, hr, he⟩
  ·rw [if_neg hp] at he
   exact .inl he.symm
theorem depth_is {E : List Nd} {p : List Nm} {D : Nat} (h1 : ∀ x ∈ E, ∀ r, x.path = p ++ r → r.length ≤ D) (h2 : D = 0 ∨ ∃ x ∈ E, ∃ r, x.path = p ++ r ∧ r.length = D) : depthF E p = D := by
 have a : depthF E p ≤ D := by
  rcases depth_at E p with h | ⟨x, hx, r, h, hr⟩
  ·omega
  ·rw [← hr]; exact h1 x hx r h
 have b : D ≤ depthF E p := by
  rcases h2 with h | ⟨x, hx, r, h, hr⟩
  ·omega
  ·rw [← hr]; exact depth_le hx h
 omega
def levP (E : List Nd) (p : List Nm) (i : Nat) (q : En) : Prop := ∃ x ∈ E, ∃ r, r.length = i + 1 ∧ x.path = p ++ r ∧ q = (x.path.getLastD [], x.num)
theorem lev_zero {E : List Nd} {p : List Nm} (q : En) : q ∈ kids E p ↔ levP E p 0 q := by
 rw [mem_kids]
 constructor
 ·rintro ⟨x, hx, h1, h2⟩
  refine ⟨x, hx, [q.1], rfl, h1, ?_⟩
  rw [h1, h2, List.getLastD_eq_getLast?]
  simp
 ·rintro ⟨x, hx, r, hr, h1, h2⟩
  obtain ⟨t, rfl⟩ : ∃ t, r = [t] := by
   cases r with
   | nil => cases hr
   | cons t r => cases r with | nil => exact ⟨t, rfl⟩ | cons _ _ => simp at hr
  refine ⟨x, hx, ?_, by rw [h2]⟩
  rw [h2, h1, List.getLastD_eq_getLast?]
  simp
theorem lev_next {given : Nat} {E : List Nd} (h : WF given E) {p : List Nm} (hp : p ≠ []) {i : Nat} {l : List En} (hl : ∀ q, q ∈ l ↔ levP E p i q) (q : En) : belowP E l q ↔ levP E p (i + 1) q := by
 constructor
 ·rintro ⟨e, he, y, hy, hn, hq⟩
  obtain ⟨x, hx, r, hr, h1, h2⟩ := (hl e).1 he
  have : y = x := num_eq h.nums hy hx (by rw [hn, h2])
  subst this
  obtain ⟨z, hz, h3, h4⟩ := mem_kids.1 hq
  refine ⟨z, hz, r ++ [q.1], by rw [List.length_append, hr]; rfl, by rw [h3, h1, List.append_assoc], ?_⟩
  rw [h3, h4, List.getLastD_eq_getLast?]
  simp
 ·rintro ⟨x, hx, r, hr, h1, h2⟩
  have hr0 : r ≠ [] := by rintro rfl; cases hr
  have hd : x.path.dropLast = p ++ r.dropLast := by rw [h1, List.dropLast_append_of_ne_nil hr0]
  rcases h.up x hx with h3 | ⟨y, hy, h3, h4⟩
  ·rw [hd] at h3; exact absurd (List.append_eq_nil_iff.1 h3).1 hp
  ·rw [hd] at h3
   refine ⟨(y.path.getLastD [], y.num), (hl _).2 ⟨y, hy, r.dropLast, by rw [List.length_dropLast, hr]; omega, h3, rfl⟩, y, hy, rfl, ?_⟩
   rw [mem_kids, h2]
   refine ⟨x, hx, ?_, rfl⟩
   rw [h3, ← hd]
   exact (last_snoc (h.form x hx).1).symm
theorem lev_end {given : Nat} {E : List Nd} (h : WF given E) {p : List Nm} (hp : p ≠ []) {i : Nat} (hl : ∀ q, ¬ levP E p i q) : ∀ x ∈ E, ∀ r, x.path = p ++ r → r.length ≤ i := by
 intro x hx r hr
 apply Decidable.byContradiction
 intro hn
 obtain ⟨y, hy, h1, _⟩ := anc h (q := p ++ r.take (i + 1)) (by intro e; exact hp (List.append_eq_nil_iff.1 e).1) (r.drop (i + 1)).length (r.drop (i + 1)) rfl x hx (by rw [List.append_assoc, List.take_append_drop]; exact hr)
 exact hl _ ⟨y, hy, r.take (i + 1), by rw [List.length_take]; omega, h1, rfl⟩
theorem deep_any (w : World) (fb sb : Nat) (V : OM) (given : Nat) (E : List Nd) (h : FR w fb sb V given E) (hEl : E.length ≤ 1000) (p : List Nm) (hp : p ≠ []) (nv : Value) (hn : NodeP w nv E p) :
  Calls Tryz.prog 58 #[Ptr fb, nv] w fun e w' => e = .returned (I (depthF E p)) ∧ Kept [] w w' := by
 obtain ⟨d, bb, hta, hens⟩ := node_dir h.wf hp hn
 have H := Lib.hid h
 obtain ⟨D, hD⟩ : ∃ D, depthF E p = D := ⟨_, rfl⟩
 have HD := Lib.hid hD
 rw [hD]
 have HE := Lib.hid (And.intro hens hp)
 have hk6 := h.wf.few p
 have HK6 := Lib.hid hk6
 clear h hn hens hD hp hk6
 go_enter Tryz.func58, Tryz.ntmps58
 go_wp2_with (fail)
 go_loopw [5, 7] (fun v5 v7 wr => ∃ (i : Nat) (l : List En), i ≤ 8 ∧ v7 = I i ∧ EnsAt wr v5 l ∧ l.length ≤ 1000 ∧ (∀ q, q ∈ l ↔ levP E p i q) ∧ (i = 0 ∨ ∃ x ∈ E, ∃ r, x.path = p ++ r ∧ r.length = i) ∧ Kept [] w wr) (fun _ v7 _ => 9 - (intOf v7).toNat)
 case atStart => exact ⟨0, kids E p, by omega, rfl, HE.out.1, by have := HK6.out; omega, lev_zero, .inl rfl, Kept.refl _ _⟩
 case round =>
  obtain ⟨i, l, hi, rfl, hl, hll, hlev, hat, kr⟩ := hrel
  have hiI : (i : Int) ≤ 8 := by omega
  have hl2 := hl
  obtain ⟨lp, lc, lb, rfl, _⟩ := hl2
  have hlI : (l.length : Int) ≤ 1000 := by omega
  by_cases h0 : l = []
  ·have hz : (l.length : Int) = 0 := by rw [h0]; rfl
   have hz2 : l.length = 0 := by rw [h0]; rfl
   have HR : Hid (D = i) := Lib.hid (by
    rw [← HD.out]
    exact depth_is (lev_end H.out.wf HE.out.2 (fun q hq => by have := (hlev q).2 hq; rw [h0] at this; cases this)) hat)
   have KR := Lib.hid kr
   clear hl hlev hat kr h0
   go_wp2_with (fail)
   go_ret
   exact ⟨by rw [HR.out]; rfl, KR.out⟩
  ·have hz : ((l.length : Int) == 0) = false := by have := List.length_pos_iff.2 h0; simp; omega
   have hnx : ∃ x ∈ E, ∃ r, x.path = p ++ r ∧ r.length = i + 1 := by
    obtain ⟨q, hq⟩ := List.exists_mem_of_ne_nil l h0
    obtain ⟨x, hx, r, hr, h1, _⟩ := (hlev q).1 hq
    exact ⟨x, hx, r, h1, hr⟩
   have hi8 : i + 1 ≤ 8 := by
    obtain ⟨x, hx, r, h1, hr⟩ := hnx
    have := (H.out.wf.form x hx).2.1
    rw [h1, List.length_append] at this
    omega
   have HB := Lib.hid (below_any wr fb sb V given E (H.out.same kr) hEl (.slice lp l.length lc) l hl hll (fun e he => by
    obtain ⟨x, hx, r, hr, h1, h2⟩ := (hlev e).1 he
    exact ⟨x, hx, by rw [h2]⟩))
   have HJ := Lib.hid (And.intro hlev (And.intro hnx (And.intro hi8 kr)))
   clear hl hlev hat kr h0 hnx hi8
   go_wp2_with (fail)
   refine HB.out.mono ?_
   rintro e w3 ⟨⟨v, ys, rfl, hat, hyl, hys⟩, k3⟩
   have HY := Lib.hid (And.intro hat (And.intro hyl (And.intro hys k3)))
   clear hat hyl hys k3
   go_wp2_with (fail)
   go_roundw
   case rel =>
    obtain ⟨hat, hyl, hys, k3⟩ := HY.out
    obtain ⟨hlev, hnx, hi8, kr⟩ := HJ.out
    exact ⟨i + 1, ys, hi8, by go_num, hat, hyl, fun q => by rw [hys q]; exact lev_next H.out.wf HE.out.2 hlev q, .inr hnx, kr.trans' k3⟩
   case measure => simp [intOf]; omega
end Go.Proofs.YteplbljjlbdhaaaGreatDoor
