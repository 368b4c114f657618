/- Walks and lemmas on the program of this seat, used by its statements; each theorem bears its own conditions. -/
import Derived.Test.YtgdncdhalnijcaaGreatDoorMKA
import Derived.Test.YtgdncdhalnijcaaGreatDoorMEE
namespace Go.Proofs.YtgdncdhalnijcaaGreatDoor
open Go.RowKit
set_option linter.unusedVariables false
set_option linter.unusedSimpArgs false
namespace CL
set_option maxHeartbeats 8000000
set_option maxRecDepth 100000
/-! ### Scripts out of the arguments, of any size -/
section
open Go.ChangeShapes Go.WideShapes Go.Deep Go.Joins
variable {H : Type} {enc : TypeId × Value → H} {w : World} {base : Nat} {spare : Nat → Bool} {held : Bool}
set_option maxRecDepth 100000 in
theorem open_ops2 {fuel : Nat} {v : Value} {x : DataW H × List MemPlace} (h : DataW.trod enc Tryz.prog w base spare held fuel 40 [v] = some x) :
    ∃ os, OpsAt w v os ∧ ∀ o ∈ os, o.s.length ≤ 9223372036854775807 ∧ -9223372036854775808 ≤ o.n ∧ o.n ≤ 9223372036854775807 := by
  rcases open_slice_fields Tryz.underlying40 Tryz.underlying42 (by kernel_rfl) (by kernel_rfl) h with ⟨hcs, -⟩ | ⟨a, len, cap, m, D, Pl, hcs, hb, hl, hm, hmm, hx, hi⟩
  · simp at hcs; subst hcs
    exact ⟨[], ⟨none, 0, rfl, Nat.le_refl _, Nat.zero_le _, fun h => absurd rfl h⟩, fun o ho => by cases ho⟩
  · simp at hcs; subst hcs
    have hlm : len ≤ m := by rw [hmm]; split <;> omega
    have key : ∀ i, i < len → ∃ e : Op1, w.cell? (a.add (i * 3)) = some (I e.ki) ∧ w.cell? (a.add (i * 3 + 1)) = some (I e.n) ∧ w.cell? (a.add (i * 3 + 2)) = some (S e.s) ∧ e.s.length ≤ 9223372036854775807 ∧ -9223372036854775808 ≤ e.n ∧ e.n ≤ 9223372036854775807 := by
      intro i hil
      obtain ⟨ys, n, hD, -, hyl, hf⟩ := hi i (by omega)
      obtain ⟨u0, y0, e0, f0, t0⟩ := hf 0 _ rfl
      obtain ⟨u1, y1, e1, f1, t1⟩ := hf 1 _ rfl
      obtain ⟨u2, y2, e2, f2, t2⟩ := hf 2 _ rfl
      obtain ⟨n0, rfl, _⟩ := open_int1 t0
      obtain ⟨n1, rfl, l1, h1⟩ := open_int1 t1
      obtain ⟨s2, rfl, _, hy2⟩ := open_str1 t2
      exact ⟨⟨n0, n1, s2⟩, e0, e1, e2, hy2, l1, h1⟩
    haveI : Inhabited Op1 := ⟨⟨0, 0, []⟩⟩
    obtain ⟨f, hf⟩ := choose_lt key
    refine ⟨(List.range len).map f, ⟨some a, cap, by simp, by simp; exact hl, hm, fun hne => ?_⟩, fun o ho => ?_⟩
    · have hpos : 0 < len := by
        rcases Nat.eq_zero_or_pos len with h0 | h0
        · subst h0; simp at hne
        · exact h0
      obtain ⟨b, off, spot⟩ := a
      have hspot : spot = none := by simpa [Addr.add] using World.cell?_spot (hf 0 hpos).1
      subst hspot
      refine ⟨b, off, rfl, fun i hi => ?_⟩
      have hil : i < len := by simpa using hi
      obtain ⟨g0, g1, g2, _⟩ := hf i hil
      simp only [List.getElem_map, List.getElem_range]
      rw [Addr.add_lit] at g0 g1 g2
      exact ⟨g0, g1, g2⟩
    · obtain ⟨i, hi, rfl⟩ := List.mem_map.1 ho
      obtain ⟨_, _, _, g3, g4, g5⟩ := hf i (List.mem_range.1 hi)
      exact ⟨g3, g4, g5⟩
end
end CL
end Go.Proofs.YtgdncdhalnijcaaGreatDoor
