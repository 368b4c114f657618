/- Walks and lemmas on the program of this seat, used by its statements; each theorem bears its own conditions. -/
import Derived.Test.YtgdncdhalnijcaaDoorRdD
namespace Go.Proofs.YtgdncdhalnijcaaDoor
open Go.RowKit
set_option linter.unusedVariables false
set_option linter.unusedSimpArgs false
namespace BD
/-! ### The body, byte by byte -/
def feed (r : Rd) (c : UInt8) : Rd × List UInt8 × Int :=
  if r.state = 11 then ({ r with rest := r.rest ++ [c] }, [], 0)
  else if r.state = 1 then (if 1048576 ≤ r.told then (r, [], 181) else ({ r with told := r.told + 1 }, [c], 0))
  else if r.state = 0 then ({ r with left := r.left - 1, told := r.told + 1, state := if r.left = 1 then 11 else 0 }, [c], 0)
  else if r.state = 4 then ({ r with left := r.left - 1, told := r.told + 1, state := if r.left = 1 then 5 else 4 }, [c], 0)
  else ((byteF r c).1, [], (byteF r c).2)

def feeds : Rd → List UInt8 → Rd × List UInt8 × Int
  | r, [] => (r, [], 0)
  | r, c :: s =>
    if (feed r c).2.2 = 0 then
      (if (feeds (feed r c).1 s).2.2 = 0 then ((feeds (feed r c).1 s).1, (feed r c).2.1 ++ (feeds (feed r c).1 s).2.1, 0) else ((feeds (feed r c).1 s).1, [], (feeds (feed r c).1 s).2.2))
    else ((feed r c).1, [], (feed r c).2.2)

theorem feeds_nil (r : Rd) : feeds r [] = (r, [], 0) := rfl
theorem feeds_cons_ok {r r1 r2 : Rd} {c : UInt8} {s o1 o2 : List UInt8} (h1 : feed r c = (r1, o1, 0)) (h2 : feeds r1 s = (r2, o2, 0)) : feeds r (c :: s) = (r2, o1 ++ o2, 0) := by
  simp [feeds, h1, h2]
theorem feeds_cons_no {r r1 r2 : Rd} {c : UInt8} {s o1 o2 : List UInt8} {e : Int} (h1 : feed r c = (r1, o1, 0)) (h2 : feeds r1 s = (r2, o2, e)) (he : e ≠ 0) : feeds r (c :: s) = (r2, [], e) := by
  simp [feeds, h1, h2, he]
theorem feeds_cons_err {r r1 : Rd} {c : UInt8} {s o1 : List UInt8} {e : Int} (h1 : feed r c = (r1, o1, e)) (he : e ≠ 0) : feeds r (c :: s) = (r1, [], e) := by
  simp [feeds, h1, he]
theorem feeds_err_out (s : List UInt8) : ∀ r : Rd, (feeds r s).2.2 ≠ 0 → (feeds r s).2.1 = [] := by
  induction s with
  | nil => intro r h; simp [feeds] at h
  | cons c s ih =>
    intro r h
    simp only [feeds] at h ⊢
    split
    · rename_i h1
      simp only [h1, if_true] at h
      split
      · rename_i h2; simp [h2] at h
      · rfl
    · rfl
theorem feeds_append (a : List UInt8) : ∀ (r : Rd) (b : List UInt8), feeds r (a ++ b) =
    if (feeds r a).2.2 = 0 then (if (feeds (feeds r a).1 b).2.2 = 0 then ((feeds (feeds r a).1 b).1, (feeds r a).2.1 ++ (feeds (feeds r a).1 b).2.1, 0) else ((feeds (feeds r a).1 b).1, [], (feeds (feeds r a).1 b).2.2))
    else ((feeds r a).1, [], (feeds r a).2.2) := by
  induction a with
  | nil =>
    intro r b
    rw [feeds_nil]
    by_cases h : (feeds r b).2.2 = 0
    · simp only [List.nil_append, h, if_true]; rw [← h]
    · simp only [List.nil_append, h, if_true, if_false]; rw [← feeds_err_out b r h]
  | cons c a ih =>
    intro r b
    simp only [List.cons_append]
    by_cases h1 : (feed r c).2.2 = 0
    · have e1 : feed r c = ((feed r c).1, (feed r c).2.1, 0) := by rw [← h1]
      by_cases h2 : (feeds (feed r c).1 a).2.2 = 0
      · have e2 : feeds (feed r c).1 a = ((feeds (feed r c).1 a).1, (feeds (feed r c).1 a).2.1, 0) := by rw [← h2]
        have e3 := feeds_cons_ok e1 e2
        have i := ih (feed r c).1 b
        rw [if_pos h2] at i
        rw [e3]
        simp only [if_true]
        by_cases h4 : (feeds (feeds (feed r c).1 a).1 b).2.2 = 0
        · rw [if_pos h4] at i ⊢
          rw [feeds_cons_ok e1 i, List.append_assoc]
        · rw [if_neg h4] at i ⊢
          exact feeds_cons_no e1 i h4
      · have e2 : feeds (feed r c).1 a = ((feeds (feed r c).1 a).1, (feeds (feed r c).1 a).2.1, (feeds (feed r c).1 a).2.2) := rfl
        have e3 := feeds_cons_no e1 e2 h2
        have i := ih (feed r c).1 b
        rw [if_neg h2] at i
        rw [e3]
        simp only [h2, if_false]
        exact feeds_cons_no e1 i h2
    · have e1 : feed r c = ((feed r c).1, (feed r c).2.1, (feed r c).2.2) := rfl
      rw [feeds_cons_err e1 h1, feeds_cons_err e1 h1]
      simp [h1]
theorem feeds_go {r r1 r2 : Rd} {a b o1 o2 : List UInt8} {e : Int} (h1 : feeds r a = (r1, o1, 0)) (h2 : feeds r1 b = (r2, o2, e)) : feeds r (a ++ b) = (r2, if e = 0 then o1 ++ o2 else [], e) := by
  rw [feeds_append, h1]
  simp only [if_true, h2]
  split
  · rename_i h; simp [h]
  · rfl
theorem feeds_open (s : List UInt8) : ∀ (r : Rd), r.state = 1 → 0 ≤ r.told → r.told ≤ 1048576 →
    feeds r s = if r.told + s.length ≤ 1048576 then ({ r with told := r.told + s.length }, s, 0) else ({ r with told := 1048576 }, [], 181) := by
  induction s with
  | nil => intro r h1 h2 h3; simp [feeds, h3]
  | cons c s ih =>
    intro r h1 h2 h3
    by_cases h4 : 1048576 ≤ r.told
    · have e1 : feed r c = (r, [], 181) := by simp [feed, h1, h4]
      rw [feeds_cons_err e1 (by decide), if_neg (by simp; omega)]
      have : r.told = 1048576 := by omega
      rw [← this]
    · have e1 : feed r c = ({ r with told := r.told + 1 }, [c], 0) := by simp [feed, h1, h4]
      have i := ih { r with told := r.told + 1 } h1 (by simp; omega) (by simp; omega)
      simp only at i
      by_cases h5 : r.told + 1 + s.length ≤ 1048576
      · rw [if_pos h5] at i
        rw [feeds_cons_ok e1 i, if_pos (by simp; omega)]
        simp only [List.length_cons, List.singleton_append, Prod.mk.injEq, Rd.mk.injEq, true_and, and_true]
        omega
      · rw [if_neg h5] at i
        rw [feeds_cons_no e1 i (by decide), if_neg (by simp; omega)]
theorem feeds_some (st : Int) (s : List UInt8) : ∀ (r : Rd), r.state = st → (st = 0 ∨ st = 4) → 0 < r.left → s ≠ [] → (s.length : Int) ≤ r.left →
    feeds r s = ({ r with left := r.left - s.length, told := r.told + s.length, state := if r.left - s.length = 0 then (if r.state = 0 then 11 else 5) else r.state }, s, 0) := by
  induction s with
  | nil => intro r _ _ _ h; exact absurd rfl h
  | cons c s ih =>
    intro r h1 h2 h3 h4 h5
    simp only [List.length_cons] at h5
    have e1 : feed r c = ({ r with left := r.left - 1, told := r.told + 1, state := if r.left = 1 then (if r.state = 0 then 11 else 5) else r.state }, [c], 0) := by
      subst h1
      rcases h2 with h2 | h2 <;> simp [feed, h2]
    by_cases hs : s = []
    · subst hs
      rw [feeds_cons_ok e1 (feeds_nil _)]
      simp only [List.length_cons, List.length_nil, List.append_nil, Prod.mk.injEq, Rd.mk.injEq, true_and, and_true]
      refine ⟨?_, by omega, by omega⟩
      by_cases h6 : r.left = 1
      · have h7 : r.left - ((0 + 1 : Nat) : Int) = 0 := by omega
        rw [if_pos h6, if_pos h7]
      · have h7 : ¬ r.left - ((0 + 1 : Nat) : Int) = 0 := by omega
        rw [if_neg h6, if_neg h7]
    · have hl : 0 < s.length := List.length_pos_iff.2 hs
      have i := ih { r with left := r.left - 1, told := r.told + 1, state := if r.left = 1 then (if r.state = 0 then 11 else 5) else r.state }
        (by simp only; rw [if_neg (by omega)]; exact h1) h2 (by simp only; omega) hs (by simp only; omega)
      rw [feeds_cons_ok e1 i]
      have h7 : ¬ r.left = 1 := by omega
      simp only [h7, if_false, List.length_cons, List.singleton_append, Prod.mk.injEq, Rd.mk.injEq, true_and, and_true]
      refine ⟨?_, by omega, by omega⟩
      by_cases h6 : r.left - 1 - (s.length : Int) = 0
      · have h8 : r.left - ((s.length + 1 : Nat) : Int) = 0 := by omega
        rw [if_pos h6, if_pos h8]
      · have h8 : ¬ r.left - ((s.length + 1 : Nat) : Int) = 0 := by omega
        rw [if_neg h6, if_neg h8]
theorem feeds_done (s : List UInt8) : ∀ (r : Rd), r.state = 11 → feeds r s = ({ r with rest := r.rest ++ s }, [], 0) := by
  induction s with
  | nil => intro r _; simp [feeds]
  | cons c s ih =>
    intro r h
    have e1 : feed r c = ({ r with rest := r.rest ++ [c] }, [], 0) := by simp [feed, h]
    rw [feeds_cons_ok e1 (ih _ h)]
    simp

def lim (m : Int) : Int := if m ≤ 0 then 0 else if m = 1 then 15 else if m = 2 then 255 else if m = 3 then 4095 else if m = 4 then 65535 else if m = 5 then 1048575 else 16777215
structure Rd.Inv (r : Rd) : Prop where
  m0 : 0 ≤ r.many
  m1 : r.many ≤ 256
  l0 : 0 ≤ r.lines
  l1 : r.lines ≤ 32
  f0 : 0 ≤ r.left
  f1 : r.left ≤ 16777215
  t0 : 0 ≤ r.told
  t1 : r.told ≤ 1048576
  n6 : r.state = 2 → r.many ≤ 6 ∧ r.left ≤ lim r.many
  w : r.state = 0 ∨ r.state = 4 → 0 < r.left ∧ r.told + r.left ≤ 1048576
  z : r.state = 5 ∨ r.state = 6 → r.left = 0
  y : r.state = 4 ∨ r.state = 5 ∨ r.state = 6 → r.many = 0
theorem Rd.Inv.bd {r : Rd} (h : r.Inv) : r.Bd := ⟨h.m0, by have := h.m1; omega, h.l0, by have := h.l1; omega, h.f0, by have := h.f1; omega, h.t0, h.t1, fun e => (h.n6 e).1⟩
theorem lim_succ (m : Int) (h0 : 0 ≤ m) (h : m < 6) : 16 * lim m + 15 = lim (m + 1) := by
  have : m = 0 ∨ m = 1 ∨ m = 2 ∨ m = 3 ∨ m = 4 ∨ m = 5 := by omega
  rcases this with h | h | h | h | h | h <;> subst h <;> decide
theorem lim_le (m : Int) : lim m ≤ 16777215 := by unfold lim; (repeat' split) <;> omega
theorem lim_zero : lim 0 = 0 := rfl
theorem inv_mk (r r' : Rd) (st : Int) (hs : r'.state = st) (m0 : 0 ≤ r'.many) (m1 : r'.many ≤ 256) (l0 : 0 ≤ r'.lines) (l1 : r'.lines ≤ 32) (f0 : 0 ≤ r'.left) (f1 : r'.left ≤ 16777215)
    (t0 : 0 ≤ r'.told) (t1 : r'.told ≤ 1048576) (n6 : st = 2 → r'.many ≤ 6 ∧ r'.left ≤ lim r'.many) (w : st = 0 ∨ st = 4 → 0 < r'.left ∧ r'.told + r'.left ≤ 1048576)
    (z : st = 5 ∨ st = 6 → r'.left = 0) (y : st = 4 ∨ st = 5 ∨ st = 6 → r'.many = 0) : r'.Inv := by
  subst hs; exact ⟨m0, m1, l0, l1, f0, f1, t0, t1, n6, w, z, y⟩
theorem inv_line {r : Rd} (h : r.Inv) (h2 : r.state = 2) (c : UInt8) (he : (lineF r c).2 = 0) : (lineF r c).1.Inv := by
  obtain ⟨m0, m1, l0, l1, f0, f1, t0, t1, n6, hw, hz, hy⟩ := h
  have ⟨g1, g2⟩ := n6 h2
  unfold lineF at he ⊢
  by_cases h5 : c.toNat = 13 ∧ 0 < r.many
  · rw [if_pos h5]
    exact inv_mk r _ 3 rfl m0 m1 l0 l1 f0 f1 t0 t1 (by omega) (by omega) (by omega) (by omega)
  · rw [if_neg h5] at he ⊢
    by_cases h6 : digitF c < 0 ∨ r.many = 6
    · rw [if_pos h6] at he; simp at he
    · rw [if_neg h6]
      have d := digitF_le c
      have e := lim_succ r.many m0 (by omega)
      have e2 := lim_le (r.many + 1)
      refine inv_mk r _ 2 h2 ?_ ?_ l0 l1 ?_ ?_ t0 t1 ?_ (by omega) (by omega) (by omega) <;> simp only <;> omega
theorem inv_is {r : Rd} (h : r.Inv) (c a b : Int) (hb : b = 6 ∧ r.state = 5 ∨ b = 11 ∨ b = 2 ∧ r.state = 6) (hi : (isF r c a b).2 = 0) : (isF r c a b).1.Inv := by
  obtain ⟨m0, m1, l0, l1, f0, f1, t0, t1, n6, hw, hz, hy⟩ := h
  unfold isF at hi ⊢
  by_cases hc : c = a
  · rw [if_pos hc]
    refine inv_mk r _ b rfl m0 m1 l0 l1 f0 f1 t0 t1 ?_ ?_ ?_ ?_ <;> simp only
    · intro h2
      have e1 : r.left = 0 := hz (by omega)
      have e2 : r.many = 0 := hy (by omega)
      rw [e1, e2, lim_zero]; omega
    · omega
    · intro h2; exact hz (by omega)
    · intro h2; exact hy (by omega)
  · rw [if_neg hc] at hi; simp at hi
theorem inv_within {r : Rd} (h : r.Inv) (hs : r.state = 7 ∨ r.state = 8 ∨ r.state = 9) (c : UInt8) (he : (withinF r c).2 = 0) : (withinF r c).1.Inv := by
  obtain ⟨m0, m1, l0, l1, f0, f1, t0, t1, n6, hw, hz, hy⟩ := h
  unfold withinF at he ⊢
  simp only at he ⊢
  by_cases h1 : c.toNat = 13 ∧ r.state = 7
  · rw [if_pos h1]; exact inv_mk r _ 10 rfl m0 m1 l0 l1 f0 f1 t0 t1 (by omega) (by omega) (by omega) (by omega)
  rw [if_neg h1] at he ⊢
  by_cases h2 : r.state = 7
  · rw [if_pos h2] at he ⊢
    by_cases h3 : r.lines + 1 > 32
    · rw [if_pos h3] at he; simp at he
    rw [if_neg h3] at he ⊢
    by_cases h4 : c.toNat = 13
    · rw [if_pos h4]
      refine inv_mk r _ 9 rfl (by simp) (by simp) ?_ ?_ f0 f1 t0 t1 (by omega) (by omega) (by omega) (by omega) <;> simp only <;> omega
    · rw [if_neg h4]
      refine inv_mk r _ 8 rfl (by simp) (by simp) ?_ ?_ f0 f1 t0 t1 (by omega) (by omega) (by omega) (by omega) <;> simp only <;> omega
  rw [if_neg h2] at he ⊢
  by_cases h3 : c.toNat = 10 ∧ r.state = 9
  · rw [if_pos h3]; exact inv_mk r _ 7 rfl m0 m1 l0 l1 f0 f1 t0 t1 (by omega) (by omega) (by omega) (by omega)
  rw [if_neg h3] at he ⊢
  have hm : 0 ≤ (if r.state = 9 then r.many + 1 else r.many) := by split <;> omega
  by_cases h4 : c.toNat = 13
  · rw [if_pos h4] at he ⊢
    simp only at he
    have hm2 : (if r.state = 9 then r.many + 1 else r.many) ≤ 256 := by
      by_cases h5 : (if r.state = 9 then r.many + 1 else r.many) > 256
      · rw [if_pos h5] at he; omega
      · omega
    exact inv_mk r _ 9 rfl hm hm2 l0 l1 f0 f1 t0 t1 (by omega) (by omega) (by omega) (by omega)
  · rw [if_neg h4] at he ⊢
    simp only at he
    have hm2 : (if r.state = 9 then r.many + 1 else r.many) + 1 ≤ 256 := by
      by_cases h5 : (if r.state = 9 then r.many + 1 else r.many) + 1 > 256
      · rw [if_pos h5] at he; omega
      · omega
    exact inv_mk r _ 8 rfl (by simp only; omega) hm2 l0 l1 f0 f1 t0 t1 (by omega) (by omega) (by omega) (by omega)
theorem inv_feed {r : Rd} (h : r.Inv) (hst : 0 ≤ r.state ∧ r.state ≤ 11) (c : UInt8) (he : (feed r c).2.2 = 0) : (feed r c).1.Inv := by
  have H := h
  obtain ⟨m0, m1, l0, l1, f0, f1, t0, t1, n6, hw, hz, hy⟩ := h
  unfold feed at he ⊢
  by_cases h11 : r.state = 11
  · rw [if_pos h11]; exact inv_mk r _ 11 h11 m0 m1 l0 l1 f0 f1 t0 t1 (by omega) (by omega) (by omega) (by omega)
  rw [if_neg h11] at he ⊢
  by_cases h1 : r.state = 1
  · rw [if_pos h1] at he ⊢
    by_cases h2 : 1048576 ≤ r.told
    · rw [if_pos h2] at he; simp at he
    · rw [if_neg h2]
      refine inv_mk r _ 1 h1 m0 m1 l0 l1 f0 f1 ?_ ?_ (by omega) (by omega) (by omega) (by omega) <;> simp only <;> omega
  rw [if_neg h1] at he ⊢
  by_cases h0 : r.state = 0
  · rw [if_pos h0]
    have := hw (.inl h0)
    refine inv_mk r _ (if r.left = 1 then 11 else 0) rfl m0 m1 l0 l1 ?_ ?_ ?_ ?_ ?_ ?_ ?_ ?_ <;> simp only
    · omega
    · omega
    · omega
    · omega
    · split <;> (intro h; omega)
    · split <;> (intro h; omega)
    · split <;> (intro h; omega)
    · split <;> (intro h; omega)
  rw [if_neg h0] at he ⊢
  by_cases h4 : r.state = 4
  · rw [if_pos h4]
    have := hw (.inr h4)
    have := hy (.inl h4)
    refine inv_mk r _ (if r.left = 1 then 5 else 4) rfl m0 m1 l0 l1 ?_ ?_ ?_ ?_ ?_ ?_ ?_ ?_ <;> simp only
    · omega
    · omega
    · omega
    · omega
    · split <;> (intro h; omega)
    · split <;> (intro h; omega)
    · split <;> (intro h; omega)
    · split <;> (intro h; omega)
  rw [if_neg h4] at he ⊢
  simp only at he ⊢
  unfold byteF at he ⊢
  by_cases h2 : r.state = 2
  · rw [if_pos h2] at he ⊢; exact inv_line H h2 c he
  rw [if_neg h2] at he ⊢
  by_cases h3 : r.state = 3
  · rw [if_pos h3] at he ⊢
    by_cases h5 : c.toNat = 10
    · rw [if_pos h5] at he ⊢
      unfold beginsF at he ⊢
      simp only at he ⊢
      by_cases h6 : r.left = 0
      · rw [if_pos h6]
        exact inv_mk r _ 7 rfl (by simp) (by simp) l0 l1 f0 f1 t0 t1 (by omega) (by omega) (by omega) (by omega)
      · rw [if_neg h6] at he ⊢
        by_cases h7 : r.left > 1048576 - r.told
        · rw [if_pos h7] at he; simp at he
        · rw [if_neg h7]
          refine inv_mk r _ 4 rfl (by simp) (by simp) l0 l1 f0 f1 t0 t1 (by omega) (fun _ => ?_) (by omega) (fun _ => rfl)
          simp only
          omega
    · rw [if_neg h5] at he; simp at he
  rw [if_neg h3] at he ⊢
  by_cases h5 : r.state = 5
  · rw [if_pos h5] at he ⊢; exact inv_is H _ _ _ (.inl ⟨rfl, h5⟩) he
  rw [if_neg h5] at he ⊢
  by_cases h6 : r.state = 6
  · rw [if_pos h6] at he ⊢; exact inv_is H _ _ _ (.inr (.inr ⟨rfl, h6⟩)) he
  rw [if_neg h6] at he ⊢
  by_cases h10 : r.state = 10
  · rw [if_pos h10] at he ⊢; exact inv_is H _ _ _ (.inr (.inl rfl)) he
  rw [if_neg h10] at he ⊢
  exact inv_within H (by omega) c he
theorem ite_ind {α : Type} {P : α → Prop} {c : Prop} [Decidable c] {a b : α} (h1 : c → P a) (h2 : ¬ c → P b) : P (if c then a else b) := by
  by_cases h : c
  · rw [if_pos h]; exact h1 h
  · rw [if_neg h]; exact h2 h
/-- What a byte that is none of the body leaves. -/
def ByteOk (r : Rd) (x : Rd × Int) : Prop := (0 ≤ r.state ∧ r.state ≤ 11 → 0 ≤ x.1.state ∧ x.1.state ≤ 11) ∧ x.1.size = r.size ∧ x.1.e = r.e ∧ x.1.told = r.told ∧ x.1.rest = r.rest
theorem byte_ok (r : Rd) (c : UInt8) : ByteOk r (byteF r c) := by
  unfold byteF lineF beginsF isF withinF
  simp only
  repeat' (refine ite_ind (P := ByteOk r) (fun _ => ?_) (fun _ => ?_))
  all_goals exact ⟨fun h => by (try simp only); omega, rfl, rfl, rfl, rfl⟩
theorem state_byte {r : Rd} (h : 0 ≤ r.state ∧ r.state ≤ 11) (c : UInt8) : 0 ≤ (byteF r c).1.state ∧ (byteF r c).1.state ≤ 11 := (byte_ok r c).1 h
theorem keeps_byte (r : Rd) (c : UInt8) : (byteF r c).1.size = r.size ∧ (byteF r c).1.e = r.e ∧ (byteF r c).1.told = r.told ∧ (byteF r c).1.rest = r.rest := (byte_ok r c).2
theorem state_feed {r : Rd} (h : 0 ≤ r.state ∧ r.state ≤ 11) (c : UInt8) : 0 ≤ (feed r c).1.state ∧ (feed r c).1.state ≤ 11 := by
  have k := state_byte h c
  unfold feed
  constructor <;> (repeat' split) <;> (try simp only) <;> omega
theorem keeps_feed (r : Rd) (c : UInt8) : (feed r c).1.size = r.size ∧ (feed r c).1.e = r.e := by
  have k := keeps_byte r c
  unfold feed
  refine ⟨?_, ?_⟩ <;> (repeat' split) <;> first | rfl | exact k.1 | exact k.2.1
theorem inv_feeds (s : List UInt8) : ∀ {r : Rd}, r.Inv → (0 ≤ r.state ∧ r.state ≤ 11) → (feeds r s).2.2 = 0 → (feeds r s).1.Inv ∧ 0 ≤ (feeds r s).1.state ∧ (feeds r s).1.state ≤ 11 := by
  induction s with
  | nil => intro r h hs _; exact ⟨h, hs⟩
  | cons c s ih =>
    intro r h hs he
    simp only [feeds] at he ⊢
    by_cases h1 : (feed r c).2.2 = 0
    · rw [if_pos h1] at he ⊢
      by_cases h2 : (feeds (feed r c).1 s).2.2 = 0
      · rw [if_pos h2]
        exact ih (inv_feed h hs c h1) (state_feed hs c) h2
      · rw [if_neg h2] at he; exact absurd he h2
    · rw [if_neg h1] at he; exact absurd he h1
theorem keeps_feeds (s : List UInt8) : ∀ (r : Rd), (feeds r s).1.size = r.size ∧ (feeds r s).1.e = r.e := by
  induction s with
  | nil => intro r; exact ⟨rfl, rfl⟩
  | cons c s ih =>
    intro r
    have k := keeps_feed r c
    have i := ih (feed r c).1
    simp only [feeds]
    by_cases h1 : (feed r c).2.2 = 0
    · rw [if_pos h1]
      split <;> exact ⟨i.1.trans k.1, i.2.trans k.2⟩
    · rw [if_neg h1]; exact k
/-- What 'goes' makes of bytes. -/
def goesF (r : Rd) (l : List UInt8) : Rd × List UInt8 × Int :=
  if (feeds r l).2.2 = 0 then feeds r l else ({ (feeds r l).1 with told := r.told }, [], (feeds r l).2.2)
end BD
end Go.Proofs.YtgdncdhalnijcaaDoor
