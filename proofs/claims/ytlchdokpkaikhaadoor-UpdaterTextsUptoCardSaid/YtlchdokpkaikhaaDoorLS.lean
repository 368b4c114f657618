/- Walks and lemmas on the program of this seat, used by its statements; each theorem bears its own conditions. -/
import Derived.Test.YtlchdokpkaikhaaDoorUK
import Derived.Test.YtlchdokpkaikhaaDoorUF
import Derived.Handy
import Derived.IntWalk
import Derived.Deep.RegionHeld3
namespace Go.Proofs.YtlchdokpkaikhaaDoor
open Go.RowKit
set_option linter.unusedVariables false
set_option linter.unusedSimpArgs false
/-! ### UpdaterSteps -/
abbrev boxE (e : Ev) : Obj := .cells #[I e.ki, I e.id, I e.sl, I e.sz, I e.sq, .bool e.up, .bool e.ok] 25
theorem rstep_at (s t : St) (e : Ev) (a : Int) (w : World) (h : stepF s e = (t, a)) :
    Calls Tryd.prog 10 #[VS s, VE e] w fun r w' => r = .returned (.tuple #[VS t, I a]) ∧ Kept [] w w' := by
  have := rstep_any s e w
  rw [h] at this
  exact this
abbrev C7 (w : World) (b : Nat) (s : St) : Prop :=
  w.cell? ⟨b, 0, none⟩ = some (I s.ph) ∧ w.cell? ⟨b, 1, none⟩ = some (I s.id) ∧ w.cell? ⟨b, 2, none⟩ = some (I s.sl) ∧ w.cell? ⟨b, 3, none⟩ = some (I s.sz) ∧ w.cell? ⟨b, 4, none⟩ = some (I s.sq) ∧ w.cell? ⟨b, 5, none⟩ = some (.bool s.ok) ∧ w.cell? ⟨b, 6, none⟩ = some (I s.la)
theorem C7.of {w : World} {b : Nat} {s : St} (h : w.heap[b]? = some (boxS s)) : C7 w b s := cells7 h
theorem C7.step {w w' : World} {b : Nat} {s : St} (h : C7 w b s) (hb : b < w.heap.size) (k : Kept [] w w') : C7 w' b s := by
  obtain ⟨h0, h1, h2, h3, h4, h5, h6⟩ := h
  have hc : ∀ i, w'.cell? ⟨b, i, none⟩ = w.cell? ⟨b, i, none⟩ := fun i => k.cell (p := ⟨b, i, none⟩) hb (by simp)
  exact ⟨by rw [hc]; exact h0, by rw [hc]; exact h1, by rw [hc]; exact h2, by rw [hc]; exact h3, by rw [hc]; exact h4, by rw [hc]; exact h5, by rw [hc]; exact h6⟩
abbrev S3 (w : World) (b0 b1 b2 : Nat) (s t : St) (w' : World) : Prop := C7 w' b0 s ∧ C7 w' b1 t ∧ C7 w' b2 t ∧ (b0 < w'.heap.size ∧ b1 < w'.heap.size ∧ b2 < w'.heap.size ∧ Kept [] w w')
theorem S3.step {w : World} {b0 b1 b2 : Nat} {s t : St} {w' w'' : World} (h : S3 w b0 b1 b2 s t w') (k : Kept [] w' w'') : S3 w b0 b1 b2 s t w'' := by
  obtain ⟨h0, h1, h2, l0, l1, l2, hk⟩ := h
  exact ⟨h0.step l0 k, h1.step l1 k, h2.step l2 k, Nat.lt_of_lt_of_le l0 k.size, Nat.lt_of_lt_of_le l1 k.size, Nat.lt_of_lt_of_le l2 k.size, hk.trans' k⟩
theorem S3.tabs {w : World} {b0 b1 b2 : Nat} {s t : St} {w' : World} (h : S3 w b0 b1 b2 s t w') (hT : Tabs w) : Tabs w' := hT.kept h.2.2.2.2.2.2
set_option maxHeartbeats 8000000 in
set_option maxRecDepth 100000 in
theorem stepsLaw_any (s : St) (e : Ev) (w : World) (hT : Tabs w) :
    Calls Tryd.prog 3 #[VS s, VE e] w fun r w' => r = .returned (.bool true) ∧ Kept [] w w' := by
  have HT := Lib.hid hT
  clear hT
  obtain ⟨t, a, hst⟩ : ∃ t a, stepF s e = (t, a) := ⟨_, _, rfl⟩
  have HS := Lib.hid hst
  clear hst
  obtain ⟨b, hb⟩ : ∃ b, mayB s = b := ⟨_, rfl⟩
  have HM := Lib.hid hb
  clear hb
  go_enter Tryd.func3, Tryd.ntmps3
  go_wp2_with (fail)
  refine (step_at s t e a _ HS.out).mono ?_
  rintro r w1 ⟨rfl, k1⟩
  have b1 : w1.heap[w.heap.size]? = some (boxS s) := k1.at (((Kept.refl [] _).alloc (boxE e)).at (heap_new w (boxS s)) (by simp)) (by simp)
  have b2 : w1.heap[w.heap.size + 1]? = some (boxE e) := k1.at (iter_at (w.alloc (boxS s)) (boxE e) _ (by simp)) (by simp)
  obtain ⟨p0, p1, p2, p3, p4, p5, p6⟩ := cells7 b1
  obtain ⟨q0, q1, q2, q3, q4, q5, q6⟩ := cells7 b2
  have L1 : w.heap.size < w1.heap.size := lt_of_block b1
  have L2 : w.heap.size + 1 < w1.heap.size := lt_of_block b2
  have H1 := Lib.hid (And.intro b1 ((((Kept.refl [] w).alloc (boxS s)).alloc (boxE e)).trans' k1))
  clear k1 b1 b2
  go_wp2_with (fail)
  refine (rstep_at s t e a _ HS.out).mono ?_
  rintro r w2 ⟨rfl, k2⟩
  clear p0 p1 p2 p3 p4 p5 p6 q0 q1 q2 q3 q4 q5 q6 L1 L2
  have hsp : S3 w w.heap.size w1.heap.size w2.heap.size s t (w2.alloc (boxS t)) := by
    have k2' := k2.alloc (boxS t)
    have e0 := (((Kept.refl [] w1).alloc (boxS t)).trans' k2').at H1.out.1 (by simp)
    have e1 := k2'.at (heap_new w1 (boxS t)) (by simp)
    have e2 := heap_new w2 (boxS t)
    exact ⟨.of e0, .of e1, .of e2, lt_of_block e0, lt_of_block e1, lt_of_block e2, H1.out.2.trans' (((Kept.refl [] w1).alloc (boxS t)).trans' k2')⟩
  clear k2
  go_wp2_with (fail)
  generalize w2.alloc (boxS t) = W at hsp ⊢
  go_region_held3 (fun w' => S3 w w.heap.size w1.heap.size w2.heap.size s t w')
    (first | assumption | exact S3.step hsp (Kept.refl _ _).drew | exact S3.step (by assumption) k3 | exact S3.step (by assumption) ((Kept.refl _ _).alloc _) | exact S3.step (by assumption) ((Kept.refl _ _).drew))
    (first
      | (go_at_call 11; (with_reducible refine (fixed_any _ (S3.tabs (by assumption) HT.out)).mono ?_); rintro r w3 ⟨rfl, k3⟩)
      | (go_at_call 12; (with_reducible refine (may_at' s b _ HM.out).mono ?_); rintro r w4 ⟨rfl, rfl⟩)
      | (go_at_call 13; (with_reducible refine (rmay_at' s b _ HM.out).mono ?_); rintro r w5 ⟨rfl, rfl⟩))
  rename_i hf
  have HF := Lib.hid hf.2.2.2.2.2.2
  clear hf hsp
  go_wp2
  go_ret
  exact ⟨rfl, HF.out⟩
end Go.Proofs.YtlchdokpkaikhaaDoor
