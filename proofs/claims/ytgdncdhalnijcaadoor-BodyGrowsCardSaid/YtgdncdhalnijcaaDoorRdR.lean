/- Walks and lemmas on the program of this seat, used by its statements; each theorem bears its own conditions. -/
import Derived.Test.YtgdncdhalnijcaaDoorRdP
namespace Go.Proofs.YtgdncdhalnijcaaDoor
open Go.RowKit
set_option linter.unusedVariables false
set_option linter.unusedSimpArgs false
namespace BD
/-! ### What is told, and what is left -/
theorem newF_sized {st : Int} {names values : List (List UInt8)} {r : Rd} (h : newF st names values = (some r, 0)) (hs : 0 ≤ r.size) : (r.state = 0 ∨ (r.state = 11 ∧ r.size = 0)) ∧ r.left = r.size := by
  unfold newF at h
  by_cases h1 : st < 200 ∨ st = 204 ∨ st = 304
  · rw [if_pos h1] at h; simp at h; subst h; exact ⟨.inr ⟨rfl, rfl⟩, rfl⟩
  rw [if_neg h1] at h
  by_cases h2 : 0 < (getF names values teName).2
  · rw [if_pos h2] at h
    split at h
    · simp at h
    · simp at h; subst h; simp at hs
  rw [if_neg h2] at h
  by_cases h3 : 0 < (getF names values clName).2
  · rw [if_pos h3] at h
    split at h
    · simp at h
    split at h
    · simp at h
    generalize lengthF (getF names values clName).1 = n at *
    simp at h; subst h
    refine ⟨?_, rfl⟩
    by_cases hn : n = 0
    · simp [hn]
    · simp [hn]
  rw [if_neg h3] at h
  simp at h; subst h; simp at hs
theorem feed_out (r : Rd) (c : UInt8) (h : (feed r c).2.2 = 0) : (feed r c).1.told = r.told + (feed r c).2.1.length ∧ (feed r c).2.1.length + (feed r c).1.rest.length ≤ r.rest.length + 1 := by
  have k := keeps_byte r c
  unfold feed at h ⊢
  by_cases h11 : r.state = 11
  · rw [if_pos h11]; simp
  rw [if_neg h11] at h ⊢
  by_cases h1 : r.state = 1
  · rw [if_pos h1] at h ⊢
    by_cases h2 : 1048576 ≤ r.told
    · rw [if_pos h2] at h; simp at h
    · rw [if_neg h2]; simp; omega
  rw [if_neg h1] at h ⊢
  by_cases h0 : r.state = 0
  · rw [if_pos h0]; simp; omega
  rw [if_neg h0] at h ⊢
  by_cases h4 : r.state = 4
  · rw [if_pos h4]; simp; omega
  rw [if_neg h4]
  simp only [List.length_nil]
  rw [k.2.2.1, k.2.2.2]
  simp
theorem feeds_out (l : List UInt8) : ∀ {r r' : Rd} {o : List UInt8}, feeds r l = (r', o, 0) → r'.told = r.told + o.length ∧ o.length + r'.rest.length ≤ r.rest.length + l.length := by
  induction l with
  | nil => intro r r' o h; simp [feeds] at h; obtain ⟨rfl, rfl⟩ := h; simp
  | cons c l ih =>
    intro r r' o h
    simp only [feeds] at h
    by_cases h1 : (feed r c).2.2 = 0
    · rw [if_pos h1] at h
      by_cases h2 : (feeds (feed r c).1 l).2.2 = 0
      · rw [if_pos h2] at h
        simp only [Prod.mk.injEq] at h
        obtain ⟨rfl, rfl, _⟩ := h
        have i := ih (r := (feed r c).1) (r' := (feeds (feed r c).1 l).1) (o := (feeds (feed r c).1 l).2.1) (by rw [← h2])
        have j := feed_out r c h1
        simp only [List.length_append, List.length_cons]
        omega
      · rw [if_neg h2] at h; simp only [Prod.mk.injEq] at h; exact absurd h.2.2 h2
    · rw [if_neg h1] at h; simp only [Prod.mk.injEq] at h; exact absurd h.2.2 h1
def Sz (r : Rd) : Prop := 0 ≤ r.size → (r.state = 0 ∧ r.told + r.left = r.size) ∨ (r.state = 11 ∧ r.told = r.size)
theorem sz_feed {r : Rd} (h : Sz r) (c : UInt8) : Sz (feed r c).1 := by
  intro hs
  rw [(keeps_feed r c).1] at hs ⊢
  have h' := h hs
  unfold feed
  rcases h' with ⟨h0, h1⟩ | ⟨h0, h1⟩
  · rw [if_neg (by omega), if_neg (by omega), if_pos h0]
    simp only
    by_cases hl : r.left = 1
    · rw [if_pos hl]; right; exact ⟨rfl, by omega⟩
    · rw [if_neg hl]; left; exact ⟨rfl, by omega⟩
  · rw [if_pos h0]; right; exact ⟨h0, h1⟩
theorem sz_feeds (l : List UInt8) : ∀ {r : Rd}, Sz r → Sz (feeds r l).1 := by
  induction l with
  | nil => intro r h; exact h
  | cons c l ih =>
    intro r h
    simp only [feeds]
    have h1 := sz_feed h c
    split
    · split <;> exact ih h1
    · exact h1
/-- What the statement asks behind a Write that went well. -/
theorem bounds_ok {R0 r : Rd} {pre o : List UInt8} (hz : Sz R0) (ht : R0.told = 0) (hr : R0.rest = []) (hi : R0.Inv) (hs : 0 ≤ R0.state ∧ R0.state ≤ 11) (h : feeds R0 pre = (r, o, 0)) :
    r.told = o.length ∧ (o.length : Int) ≤ 1048576 ∧ (0 ≤ r.size → (o.length : Int) ≤ r.size) ∧ o.length + (restF r).length ≤ pre.length ∧ (doneF r = true → 0 ≤ r.size → (o.length : Int) = r.size) := by
  obtain ⟨h1, h2⟩ := feeds_out pre h
  have h3 := inv_feeds pre hi hs (by rw [h])
  have h4 := sz_feeds pre hz
  rw [h] at h3 h4
  simp only at h3 h4
  rw [hr] at h2
  simp only [List.length_nil, Nat.zero_add] at h2
  have h5 := h3.1.t1
  have h6 := h3.1.f0
  refine ⟨by omega, by omega, fun hsz => ?_, ?_, fun hd hsz => ?_⟩
  · rcases h4 hsz with h7 | h7 <;> omega
  · unfold restF; split
    · exact h2
    · simp; omega
  · have hst : r.state = 11 := by simp only [doneF, decide_eq_true_eq] at hd; exact hd.1
    rcases h4 hsz with h7 | h7 <;> omega
end BD
end Go.Proofs.YtgdncdhalnijcaaDoor
