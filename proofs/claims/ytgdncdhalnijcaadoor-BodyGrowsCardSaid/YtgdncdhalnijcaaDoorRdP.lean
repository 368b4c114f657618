/- Walks and lemmas on the program of this seat, used by its statements; each theorem bears its own conditions. -/
import Derived.Test.YtgdncdhalnijcaaDoorRdO
namespace Go.Proofs.YtgdncdhalnijcaaDoor
open Go.RowKit
set_option linter.unusedVariables false
set_option linter.unusedSimpArgs false
namespace BD
theorem i64_mask (n : Int) (m : Int) (j : Nat) (hj : j ≤ 40) (hm : (BitVec.ofInt 64 m).toNat = 2 ^ j - 1) : bits .and .i64 n m = n % ((2 ^ j : Nat) : Int) := by
  have key : (BitVec.ofInt 64 n &&& BitVec.ofInt 64 m).toNat = (n % ((2 ^ 64 : Nat) : Int)).toNat % 2 ^ j := by
    rw [BitVec.toNat_and, BitVec.toNat_ofInt, hm, Nat.and_two_pow_sub_one_eq_mod]
  show IntKind.i64.wrap ((BitVec.ofInt 64 n &&& BitVec.ofInt 64 m).toNat : Nat) = n % ((2 ^ j : Nat) : Int)
  have hp : (2 ^ 64 : Nat) = 2 ^ j * 2 ^ (64 - j) := by rw [← Nat.pow_add]; congr 1; omega
  have hlt : (n % ((2 ^ 64 : Nat) : Int)).toNat % 2 ^ j < 2 ^ 40 := Nat.lt_of_lt_of_le (Nat.mod_lt _ (Nat.two_pow_pos j)) (Nat.pow_le_pow_right (by decide) hj)
  have hv : (((n % ((2 ^ 64 : Nat) : Int)).toNat % 2 ^ j : Nat) : Int) = n % ((2 ^ j : Nat) : Int) := by
    rw [Int.natCast_emod, Int.toNat_of_nonneg (Int.emod_nonneg _ (by decide)), hp, Int.natCast_mul, Int.emod_emod_of_dvd]
    exact Int.dvd_mul_right _ _
  rw [key, IntKind.wrap_i64, ← hv]
  omega
@[go_sem] theorem i64_and1023 (n : Int) : bits .and .i64 n 1023 = n % 1024 := i64_mask n 1023 10 (by decide) (by decide)
@[go_sem] theorem i64_and63 (n : Int) : bits .and .i64 n 63 = n % 64 := i64_mask n 63 6 (by decide) (by decide)
@[go_sem] theorem i64_and31 (n : Int) : bits .and .i64 n 31 = n % 32 := i64_mask n 31 5 (by decide) (by decide)
def IntsAt (w : World) (v : Value) (zs : List Int) : Prop :=
  ∃ (p : Option Addr) (cap : Nat), v = .slice p zs.length cap ∧ zs.length ≤ 9223372036854775807 ∧ (∀ z ∈ zs, -9223372036854775808 ≤ z ∧ z ≤ 9223372036854775807) ∧ (zs ≠ [] → ∃ b off, p = some ⟨b, off, none⟩ ∧ ∀ (i : Nat) (h : i < zs.length), w.cell? ⟨b, off + i, none⟩ = some (I zs[i]))
theorem IntsAt.kept {w w' : World} {v : Value} {zs : List Int} (h : IntsAt w v zs) (k : Kept [] w w') : IntsAt w' v zs := by
  obtain ⟨p, cap, hv, hl, hz, hc⟩ := h
  refine ⟨p, cap, hv, hl, hz, fun hne => ?_⟩
  obtain ⟨b, off, hp, hcell⟩ := hc hne
  exact ⟨b, off, hp, fun i hi => by rw [k.cell (World.block_lt_of_cell? w _ (hcell i hi)) (by simp)]; exact hcell i hi⟩
theorem feeds_e {r : Rd} {l : List UInt8} {r' : Rd} {o : List UInt8} {k : Int} (h : feeds r l = (r', o, k)) : r'.e = r.e ∧ r'.size = r.size := by
  have := keeps_feeds l r; rw [h] at this; exact ⟨this.2, this.1⟩
theorem write_ok {r r' : Rd} {l o : List UInt8} (he : r.e = 0) (h : feeds r l = (r', o, 0)) : writeF r l = (r', o, 0) := by
  have h1 := (feeds_e h).1
  unfold writeF goesF
  rw [if_pos he, h]
  simp only [if_true]
  cases r'; simp at h1 ⊢; rw [h1, he]
theorem write_err {r r' : Rd} {l o : List UInt8} {k : Int} (he : r.e = 0) (h : feeds r l = (r', o, k)) (hk : k ≠ 0) : writeF r l = ({ r' with told := r.told, e := k }, [], k) := by
  unfold writeF goesF
  rw [if_pos he, h]
  simp [hk]
/-- What a reader's bytes so far make of it. -/
structure Fed (R0 : Rd) (pre : List UInt8) (r : Rd) (o : List UInt8) : Prop where
  eq : feeds R0 pre = (r, o, 0)
theorem fed_err {R0 r : Rd} {pre o : List UInt8} (h : feeds R0 pre = (r, o, 0)) (l t : List UInt8) {k : Int} (hk : (feeds r l).2.2 = k) (hne : k ≠ 0) : (feeds R0 (pre ++ l ++ t)).2.2 = k := by
  have h1 : feeds r l = ((feeds r l).1, (feeds r l).2.1, k) := by rw [← hk]
  have h2 := feeds_go h h1
  rw [feeds_append, h2]
  simp [hne]
theorem newF_cases (st : Int) (names values : List (List UInt8)) :
    (∃ k, newF st names values = (none, k) ∧ (k = 180 ∨ k = 181)) ∨ ∃ r, newF st names values = (some r, 0) ∧ r.Inv ∧ (0 ≤ r.state ∧ r.state ≤ 11) ∧ r.e = 0 ∧ r.rest = [] ∧ r.told = 0 ∧ (r.size = -1 ∨ 0 ≤ r.size ∧ (r.state = 0 ∨ r.state = 11) ∧ r.left = r.size) := by
  have plain : ∀ (a b : Int), (a = 11 ∨ a = 2 ∨ a = 1) → ({ rdNil with state := a, size := b } : Rd).Inv := by
    intro a b h
    refine ⟨by simp [rdNil], by simp [rdNil], by simp [rdNil], by simp [rdNil], by simp [rdNil], by simp [rdNil], by simp [rdNil], by simp [rdNil], fun _ => ⟨by simp [rdNil], by simp [rdNil, lim]⟩, ?_, ?_, ?_⟩ <;> simp only <;> intro h2 <;> omega
  unfold newF
  by_cases h1 : st < 200 ∨ st = 204 ∨ st = 304
  · rw [if_pos h1]; exact .inr ⟨_, rfl, plain 11 0 (.inl rfl), by simp, rfl, rfl, rfl, .inr (by simp [rdNil])⟩
  rw [if_neg h1]
  by_cases h2 : 0 < (getF names values teName).2
  · rw [if_pos h2]
    split
    · exact .inl ⟨180, rfl, .inl rfl⟩
    · exact .inr ⟨_, rfl, plain 2 (-1) (.inr (.inl rfl)), by simp, rfl, rfl, rfl, .inl rfl⟩
  rw [if_neg h2]
  by_cases h3 : 0 < (getF names values clName).2
  · rw [if_pos h3]
    by_cases h4 : 1 < (getF names values clName).2 ∨ lengthF (getF names values clName).1 < 0
    · rw [if_pos h4]; exact .inl ⟨180, rfl, .inl rfl⟩
    rw [if_neg h4]
    by_cases h5 : 1048576 < lengthF (getF names values clName).1
    · rw [if_pos h5]; exact .inl ⟨181, rfl, .inr rfl⟩
    rw [if_neg h5]
    generalize lengthF (getF names values clName).1 = n at *
    refine .inr ⟨_, rfl, ?_, ?_, rfl, rfl, rfl, .inr ⟨by simp only; omega, by simp only; split <;> simp, rfl⟩⟩
    · refine ⟨by simp [rdNil], by simp [rdNil], by simp [rdNil], by simp [rdNil], by simp only; omega, by simp only; omega, by simp [rdNil], by simp [rdNil], ?_, ?_, ?_, ?_⟩
      · simp only; split <;> (intro h; omega)
      · simp only; split
        · intro h; omega
        · intro h; simp only [rdNil]; omega
      · simp only; split <;> (intro h; omega)
      · simp only; split <;> (intro h; omega)
    · simp only; split <;> omega
  rw [if_neg h3]
  exact .inr ⟨_, rfl, plain 1 (-1) (.inr (.inr rfl)), by simp, rfl, rfl, rfl, .inl rfl⟩
theorem rest_feed (r : Rd) (c : UInt8) : (feed r c).1.rest.length ≤ r.rest.length + 1 := by
  have k := (keeps_byte r c).2.2.2
  unfold feed
  split
  · simp
  split
  · split <;> simp
  split
  · simp
  split
  · simp
  · simp only; rw [k]; omega
theorem rest_feeds (l : List UInt8) : ∀ r : Rd, (feeds r l).1.rest.length ≤ r.rest.length + l.length := by
  induction l with
  | nil => intro r; simp [feeds]
  | cons c l ih =>
    intro r
    have h1 := rest_feed r c
    have h2 := ih (feed r c).1
    simp only [feeds, List.length_cons]
    split
    · split <;> (simp only; omega)
    · simp only; omega
theorem out_feeds (l : List UInt8) : ∀ r : Rd, (feeds r l).2.1.length ≤ l.length := by
  induction l with
  | nil => intro r; simp [feeds]
  | cons c l ih =>
    intro r
    have h2 := ih (feed r c).1
    have h1 : (feed r c).2.1.length ≤ 1 := by
      unfold feed
      (repeat' split) <;> simp
    simp only [feeds, List.length_cons]
    split
    · split
      · simp only [List.length_append]; omega
      · simp
    · simp
def LawPost (w : World) (e : Ending) (w' : World) : Prop := e = .returned (.bool true) ∧ Kept [] w w'
end BD
end Go.Proofs.YtgdncdhalnijcaaDoor
