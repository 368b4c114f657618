/- Walks and lemmas on the program of this seat, used by its statements; each theorem bears its own conditions. -/
import Derived.Test.YteplbljjlbdhaaaGreatDoorZ31
import Derived.Test.YteplbljjlbdhaaaGreatDoorZ23
namespace Go.Proofs.YteplbljjlbdhaaaGreatDoor
open Go.RowKit
set_option linter.unusedVariables false
set_option linter.unusedSimpArgs false
set_option linter.unusedSectionVars false
set_option maxHeartbeats 16000000
set_option maxRecDepth 100000
def STZ (w : World) (fb sb n : Nat) (V : OM) (d : Nat) (T : List Nat) (z : Bool) : Prop :=
 ∃ bb cb pb lb mb kb v st f, T = pb :: StT sb lb fb bb cb mb kb v ∧ SAtK w sb lb pb fb bb cb mb kb n v st f ∧ GoodK n st ∧ SortedA V ∧ (∀ k, valM st.M k = valM V k) ∧ st.D ≤ d ∧ f.cs.length = n + 1 ∧ (z = true → f.armed = 0)
section
variable {w : World} {fb sb n : Nat} {V : OM} {d : Nat} {T : List Nat} {z : Bool}
theorem STZ.stk (h : STZ w fb sb n V d T z) : STK w fb sb n V d T := by
 obtain ⟨bb, cb, pb, lb, mb, kb, v, st, f, e, h1, h2, h3, h4, h5, h6, _⟩ := h
 exact ⟨bb, cb, pb, lb, mb, kb, v, st, f, e, h1, h2, h3, h4, h5, h6⟩
theorem STZ.same {w' : World} (h : STZ w fb sb n V d T z) (k : Kept [] w w') : STZ w' fb sb n V d T z := by
 obtain ⟨bb, cb, pb, lb, mb, kb, v, st, f, e, h1, h2⟩ := h
 exact ⟨bb, cb, pb, lb, mb, kb, v, st, f, e, h1.same k, h2⟩
theorem STZ.kept {w' : World} {U : List Nat} (h : STZ w fb sb n V d T z) (k : Kept U w w') (hU : ∀ x ∈ U, x ∉ T) : STZ w' fb sb n V d T z := by
 obtain ⟨bb, cb, pb, lb, mb, kb, v, st, f, e, h1, h2⟩ := h
 subst e
 exact ⟨bb, cb, pb, lb, mb, kb, v, st, f, rfl, h1.kept k (fun x hx => by have := hU x hx; simp only [List.mem_cons, not_or] at this; exact ⟨this.2, this.1⟩), h2⟩
theorem STZ.mono {d' : Nat} (h : STZ w fb sb n V d T z) (hd : d ≤ d') : STZ w fb sb n V d' T z := by
 obtain ⟨bb, cb, pb, lb, mb, kb, v, st, f, e, h1, h2, h3, h4, h5, h6⟩ := h
 exact ⟨bb, cb, pb, lb, mb, kb, v, st, f, e, h1, h2, h3, h4, by omega, h6⟩
theorem STZ.sorted (h : STZ w fb sb n V d T z) : SortedA V := by
 obtain ⟨bb, cb, pb, lb, mb, kb, v, st, f, e, h1, h2, h3, _⟩ := h
 exact h3
def PutZ (fb sb n : Nat) (V : OM) (l : List Ch) (d : Nat) (r : Int) (w : World) (T : List Nat) (z : Bool) : Prop :=
 (r = mayF n V l ∧ STZ w fb sb n (putF n V l) d T z) ∨ (r = 2 ∧ z = false ∧ mayF n V l = 0 ∧ PF w fb n V (putF n V l) d T)
theorem stz_put (h : STZ w fb sb n V d T z) (hd : d ≤ 700000000) (l : List Ch) (cv : Value) (hv : ChsAt w cv l) (hvq : l ≠ [] → ∀ q, cv.ownBlock = some q → q ∉ T) (hl : l.length ≤ 4611686018427387904) :
  Calls Tryz.prog 87 #[Ptr sb, cv] w fun e w' => ∃ r : Int, e = .returned (I r) ∧ ∃ T', PutZ fb sb n V l (d + n + 1) r w' T' z ∧ (∀ x ∈ T', x < w'.heap.size) ∧ Kept T w w' ∧ (∀ x ∈ T', x ∈ T ∨ w.heap.size ≤ x) := by
 obtain ⟨bb, cb, pb, lb, mb, kb, v, st, f, rfl, h1, h2, h3, h4, h5, h6, h7⟩ := h
 have hm := mayF_val (n := n) h1.inv.inv.sorted h3 h4 l
 refine (oput_arm w sb lb pb fb bb cb mb kb n v st f h1 h2 (by omega) l cv hv (fun hne q hq => ⟨chs_lt hv hne q hq, fun hm => hvq hne q hq (List.mem_cons_of_mem _ hm)⟩) hl).mono ?_
 rintro e w' ⟨r, rfl, hp⟩
 have htv : mayF n V l = 0 → ∀ k, valM (takesF st.M l 0 0) k = valM (putF n V l) k := fun hz k => by
  unfold putF
  rw [if_pos hz]
  exact takes_val h1.inv.inv.sorted h3 h4 l (formG_ok 0 l (may_form hz)).1 0 0 0 0 k
 rcases hp with ⟨hr, v', st', f', hfr, hs, hk, hg, hD, hso, hval⟩ | ⟨hr, hz, g, hsd, hcr, hfl, hk⟩
 ·rw [hm] at hr hval
  have hq : STZ w' fb sb n (putF n V l) (d + n + 1) (pb :: StT sb lb fb bb cb mb kb v') z := ⟨bb, cb, pb, lb, mb, kb, v', st', f', rfl, hs, hg, put_sorted h3, fun k => by
   rw [hval k]
   by_cases hz : mayF n V l = 0
   ·rw [if_pos hz]; exact htv hz k
   ·rw [if_neg hz]
    unfold putF
    rw [if_neg hz]
    exact h4 k, by omega, by rw [hso.cs]; exact h6, fun hz => hso.zero (h7 hz)⟩
  refine ⟨r, rfl, _, .inl ⟨hr, hq⟩, hq.stk.lt, hk.mono (fun x hx => List.mem_cons_of_mem _ hx), fun x hx => ?_⟩
  rcases List.mem_cons.1 hx with rfl | hx
  ·exact .inl List.mem_cons_self
  ·rcases stT_fresh hfr x hx with h7 | h7
   ·exact .inl (List.mem_cons_of_mem _ h7)
   ·exact .inr h7
 ·rw [hm] at hz
  have hq : PF w' fb n V (putF n V l) (d + n + 1) [fb, bb, cb] := ⟨bb, cb, g, rfl, ⟨hfl, hsd.keep, by rw [hsd.cs]; exact h6, by
   rcases hcr with hc | hc
   ·exact .inl (hc.vals h4 (by omega))
   ·exact .inr (hc.vals (htv hz) (by omega))⟩, hsd.dead⟩
  refine ⟨r, rfl, _, .inr ⟨hr, by cases z with | false => rfl | true => exact absurd (h7 rfl) hsd.was, hz, hq⟩, hq.lt, hk.mono (fun x hx => List.mem_cons_of_mem _ hx), fun x hx => .inl ?_⟩
  simp at hx
  rcases hx with rfl | rfl | rfl <;> simp [StT, LgT]
theorem put_nil (h : SortedA V) : putF n V [] = V := by
 unfold putF
 split <;> rfl
theorem may_nil (hq : sumA wO V ≤ quotaF n) : mayF n V [] = 0 := by
 unfold mayF
 rw [if_neg (by show ¬ (formG 0 [] ≠ 0); simp [formG]), if_neg (by simp [recF]), if_neg (by show ¬ ((quotaF n : Int) < ((sumA wO V : Nat) : Int)); omega)]
end
theorem gone_any (w : World) (ff fb sb n : Nat) (V : OM) (d : Nat) (T : List Nat) (z : Bool) (h : STZ w fb sb n V d T z) (hd : d ≤ 700000000) (hc : w.cell? ⟨ff, 0, none⟩ = some (Ptr sb)) :
  Calls Tryz.prog 77 #[Ptr ff] w fun e w' => ∃ b : Bool, e = .returned (.bool b) ∧ ∃ T', ((b = false ∧ STZ w' fb sb n V (d + n + 1) T' z) ∨ (b = true ∧ z = false ∧ PF w' fb n V V (d + n + 1) T')) ∧ (∀ x ∈ T', x < w'.heap.size) ∧ Kept T w w' ∧ (∀ x ∈ T', x ∈ T ∨ w.heap.size ≤ x) := by
 have HP := Lib.hid (stz_put h hd [] (.slice none 0 0) ⟨none, 0, 0, 0, rfl, fun h => absurd rfl h, fun i hi => by simp at hi⟩ (fun h => absurd rfl h) (by simp))
 have HM := Lib.hid (And.intro (may_nil h.stk.small.2.2.1) (put_nil (n := n) h.sorted))
 clear h
 go_enter Tryz.func77, Tryz.ntmps77
 go_wp2_with (fail)
 refine HP.out.mono ?_
 rintro e w1 ⟨r, rfl, T', hp, h2⟩
 have H2 := Lib.hid h2
 clear h2
 unfold PutZ at hp
 rcases hp with ⟨hr, hs⟩ | ⟨hr, hz, hm, hpf⟩
 ·have e1 : r = 0 := by rw [hr, HM.out.1]
  subst e1
  rw [HM.out.2] at hs
  have HS := Lib.hid hs
  clear hs hr
  go_wp2_with (fail)
  go_ret
  exact ⟨false, rfl, T', .inl ⟨rfl, HS.out⟩, H2.out⟩
 ·subst hr
  rw [HM.out.2] at hpf
  have HS := Lib.hid (And.intro hz hpf)
  clear hpf hm hz
  go_wp2_with (fail)
  go_ret
  exact ⟨true, rfl, T', .inr ⟨rfl, HS.out⟩, H2.out⟩
end Go.Proofs.YteplbljjlbdhaaaGreatDoor
