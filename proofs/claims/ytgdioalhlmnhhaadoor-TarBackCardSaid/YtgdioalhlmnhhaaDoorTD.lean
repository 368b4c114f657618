/- Walks and lemmas on the program of this seat, used by its statements; each theorem bears its own conditions. -/
import Derived.Test.YtgdioalhlmnhhaaDoorTC
import Derived.Lib.IndexBytes
import Derived.Handy
namespace Go.Proofs.YtgdioalhlmnhhaaDoor
open Go.RowKit
set_option linter.unusedVariables false
set_option linter.unusedSimpArgs false
/-! ### Parse -/
abbrev VP (p : TX.P4) : Value := .tuple #[S p.nm, I p.sz, .bool p.en, I p.e]
def c8 (l : List UInt8) : List UInt8 := (l.take 156).drop 148
def c12 (l : List UInt8) : List UInt8 := (l.take 136).drop 124
def c5 (l : List UInt8) : List UInt8 := (l.take 262).drop 257
def badB (l : List UInt8) : Prop := c5 l ≠ TX.mag ∨ (byteAt l 156 ≠ 48 ∧ byteAt l 156 ≠ 0) ∨ byteAt l 345 ≠ 0 ∨ byteAt l 0 = 0
theorem c8_eq (l : List UInt8) : (l.drop 148).take 8 = c8 l := by unfold c8; rw [List.drop_take]
theorem c12_eq (l : List UInt8) : (l.drop 124).take 12 = c12 l := by unfold c12; rw [List.drop_take]
theorem c5_eq (l : List UInt8) : (l.drop 257).take 5 = c5 l := by unfold c5; rw [List.drop_take]
theorem badB_iff (l : List UInt8) : badB l ↔ (¬ c5 l = [117, 115, 116, 97, 114] ∨ ((¬ ((byteAt l 156).toNat : Int) = 48 ∧ ¬ ((byteAt l 156).toNat : Int) = 0) ∨ ¬ ((byteAt l 345).toNat : Int) = 0 ∨ ((byteAt l 0).toNat : Int) = 0)) := by
  have h : ∀ (c : UInt8) (n : Nat) (hn : n < 256), c ≠ UInt8.ofNat n ↔ ¬ (c.toNat : Int) = n := fun c n hn => by
    constructor
    · intro h e; exact h (UInt8.toNat.inj (by rw [UInt8.toNat_ofNat']; omega))
    · intro h e; apply h; rw [e, UInt8.toNat_ofNat']; omega
  have h0 : ∀ c : UInt8, c ≠ 0 ↔ ¬ (c.toNat : Int) = 0 := fun c => h c 0 (by omega)
  have h48 : ∀ c : UInt8, c ≠ 48 ↔ ¬ (c.toNat : Int) = 48 := fun c => h c 48 (by omega)
  have e0 : ∀ c : UInt8, c = 0 ↔ (c.toNat : Int) = 0 := fun c => ⟨fun h => by rw [h]; rfl, fun h => by
    rcases Decidable.em (c = 0) with h1 | h1
    · exact h1
    · exact absurd h ((h0 c).1 h1)⟩
  unfold badB TX.mag
  rw [h48, h0, h0, e0 (byteAt l 0)]
theorem parse_len (l : List UInt8) (h : l.length ≠ 512) : TX.parseL l = ⟨[], 0, false, 200⟩ := by unfold TX.parseL; rw [if_pos h]
theorem parse_sum (l : List UInt8) (h : l.length = 512) (hz : l ≠ TX.zeros 512) (hs : TX.numL (c8 l) ≠ some (TX.sumTo l 512)) : TX.parseL l = ⟨[], 0, false, 201⟩ := by
  unfold TX.parseL; rw [if_neg (by omega), if_neg hz, c8_eq, if_pos hs]
theorem parse_none (l : List UInt8) (h : l.length = 512) (hz : l ≠ TX.zeros 512) (hs : TX.numL (c8 l) = some (TX.sumTo l 512)) (hn : TX.numL (c12 l) = none) : TX.parseL l = ⟨[], 0, false, 200⟩ := by
  unfold TX.parseL; rw [if_neg (by omega), if_neg hz, c8_eq, if_neg (by rw [hs]; simp), c12_eq, hn]
theorem parse_bad (l : List UInt8) (n : Nat) (h : l.length = 512) (hz : l ≠ TX.zeros 512) (hs : TX.numL (c8 l) = some (TX.sumTo l 512)) (hn : TX.numL (c12 l) = some n) (hb : badB l) : TX.parseL l = ⟨[], 0, false, 200⟩ := by
  unfold TX.parseL; rw [if_neg (by omega), if_neg hz, c8_eq, if_neg (by rw [hs]; simp), c12_eq, hn, c5_eq]
  exact if_pos hb
theorem parse_long (l : List UInt8) (n : Nat) (h : l.length = 512) (hz : l ≠ TX.zeros 512) (hs : TX.numL (c8 l) = some (TX.sumTo l 512)) (hn : TX.numL (c12 l) = some n) (hb : ¬ badB l) (hl : 1048576 < n) : TX.parseL l = ⟨[], 0, false, 202⟩ := by
  unfold TX.parseL; rw [if_neg (by omega), if_neg hz, c8_eq, if_neg (by rw [hs]; simp), c12_eq, hn, c5_eq]
  exact (if_neg hb).trans (if_pos hl)
theorem parse_ok (l : List UInt8) (n : Nat) (h : l.length = 512) (hz : l ≠ TX.zeros 512) (hs : TX.numL (c8 l) = some (TX.sumTo l 512)) (hn : TX.numL (c12 l) = some n) (hb : ¬ badB l) (hl : ¬ 1048576 < n) : TX.parseL l = ⟨(l.take 100).takeWhile (· != 0), n, false, 0⟩ := by
  unfold TX.parseL; rw [if_neg (by omega), if_neg hz, c8_eq, if_neg (by rw [hs]; simp), c12_eq, hn, c5_eq]
  exact (if_neg hb).trans (if_neg hl)
theorem count_zeros (l : List UInt8) (h : l.length = 512) : Lib.countByte l 0 = 512 ↔ l = TX.zeros 512 := by
  unfold Lib.countByte TX.zeros
  constructor
  · intro hc
    rw [← h, List.count_eq_length] at hc
    exact List.eq_replicate_iff.2 ⟨h, fun b hb => (hc b hb).symm⟩
  · rintro rfl
    exact List.count_replicate_self
theorem cut_zero (l : List UInt8) : (Lib.cut l [0]).1 = l.takeWhile (· != 0) := by
  unfold Lib.cut
  rw [Lib.index_one]
  have key : ∀ m : List UInt8, (Lib.indexByte m 0 = -1 ∧ m.takeWhile (· != 0) = m) ∨ (0 ≤ Lib.indexByte m 0 ∧ m.takeWhile (· != 0) = m.take (Lib.indexByte m 0).toNat) := by
    intro m
    induction m with
    | nil => left; exact ⟨rfl, rfl⟩
    | cons c t ih =>
      unfold Lib.indexByte
      by_cases hc : c = 0
      · subst hc; right; simp
      · have h1 : (c == 0) = false := by simpa using hc
        have h2 : (c != 0) = true := by simpa using hc
        rw [h1, List.takeWhile_cons, h2]
        rcases ih with ⟨h3, h4⟩ | ⟨h3, h4⟩
        · left; rw [h3, if_pos rfl, h4]; simp
        · right
          have h5 : (Lib.indexByte t 0 == -1) = false := by rw [beq_eq_false_iff_ne]; omega
          rw [h5, if_pos rfl, h4]
          have h6 : (Lib.indexByte t 0 + 1).toNat = (Lib.indexByte t 0).toNat + 1 := by omega
          simp only [Bool.false_eq_true, if_false]
          rw [h6]
          exact ⟨by omega, by simp⟩
  rcases key l with ⟨h1, h2⟩ | ⟨h1, h2⟩
  · rw [if_neg (by omega), h2]
  · rw [if_pos h1, h2]
/-- The one cell of the library that these walks read: internal/bytealg.MaxLen. -/
def ML (w : World) : Prop := ∃ m, w.cell? ⟨0, 0, none⟩ = some (.int .i64 m)
theorem ML.kept {w w' : World} (h : ML w) (k : Kept [] w w') : ML w' := by
  obtain ⟨m, hm⟩ := h
  refine ⟨m, ?_⟩
  have hb : 0 < w.heap.size := World.block_lt_of_cell? w _ hm
  rw [k.cell hb (by simp), hm]
theorem cut_any (l : List UInt8) (w : World) (hl : l.length ≤ 1000000) (hM : ML w) :
    Calls Tryd.prog 54 #[S l, S [0]] w fun e w' => (∃ a b, e = .returned (.tuple #[S (l.takeWhile (· != 0)), S a, .bool b])) ∧ Kept [] w w' := by
  obtain ⟨m, hm⟩ := hM
  refine (Tryd.strings_Cut ⟨l.toArray⟩ ⟨#[0]⟩ m w (by simp [ByteArray.size]; omega) hm).mono ?_
  rintro e w' ⟨he, n, hw⟩
  have e1 : (Lib.cut (⟨l.toArray⟩ : ByteArray).data.toList (⟨#[0]⟩ : ByteArray).data.toList).1 = l.takeWhile (· != 0) := cut_zero l
  rw [e1] at he
  exact ⟨⟨(Lib.cut (⟨l.toArray⟩ : ByteArray).data.toList (⟨#[0]⟩ : ByteArray).data.toList).2.1, _, he⟩, hw ▸ (Kept.refl _ _).drewN n⟩
def numW : Option Nat → Value
  | none => .tuple #[I 0, .bool false]
  | some n => .tuple #[I n, .bool true]
theorem number_at (l : List UInt8) (r : Option Nat) (h : TX.numL l = r) (w : World) (hl : l.length ≤ 19) :
    Calls Tryd.prog 53 #[S l] w fun e w' => e = .returned (numW r) ∧ Kept [] w w' := by
  have : numV l = numW r := by unfold numV; rw [h]; cases r <;> rfl
  rw [← this]; exact number_any l w hl
set_option maxHeartbeats 8000000 in
set_option maxRecDepth 100000 in
theorem parse_any (l : List UInt8) (w : World) (hM : ML w) :
    Calls Tryd.prog 17 #[S l] w fun e w' => e = .returned (VP (TX.parseL l)) ∧ Kept [] w w' := by
  by_cases h0 : l.length = 512
  case neg =>
    have HR : Hid (VP (TX.parseL l) = VP ⟨[], 0, false, 200⟩) := Lib.hid (by rw [parse_len l h0])
    have h0' : ¬ (l.length : Int) = 512 := by omega
    go_enter Tryd.func17, Tryd.ntmps17
    go_wp2
    go_returns
    exact ⟨by rw [HR.out] <;> rfl, Kept.refl _ _⟩
  have h0' : (l.length : Int) = 512 := by omega
  have HM := Lib.hid hM
  clear hM
  have cC := Tryd.strings_Count_one ⟨l.toArray⟩ 0 w
  by_cases hz : l = TX.zeros 512
  · have HR : Hid (VP (TX.parseL l) = VP ⟨[], 0, true, 0⟩) := Lib.hid (by rw [hz, TX.parse_zeros])
    have hc : (Lib.countByte (⟨l.toArray⟩ : ByteArray).data.toList 0 : Nat) = 512 := (count_zeros l h0).2 hz
    rw [hc] at cC
    have CC := Lib.hid cC
    clear cC hz hc
    go_enter Tryd.func17, Tryd.ntmps17
    go_wp2_with (fail)
    refine CC.out.mono ?_
    rintro e w1 ⟨rfl, rfl⟩
    go_wp2
    go_returns
    exact ⟨by rw [HR.out] <;> rfl, Kept.refl _ _⟩
  have hc : ¬ (Lib.countByte (⟨l.toArray⟩ : ByteArray).data.toList 0 : Nat) = 512 := fun e => hz ((count_zeros l h0).1 e)
  obtain ⟨k, hk⟩ : ∃ k : Nat, Lib.countByte (⟨l.toArray⟩ : ByteArray).data.toList 0 = k := ⟨_, rfl⟩
  rw [hk] at hc cC
  have hc' : ¬ (k : Int) = 512 := by omega
  have CC := Lib.hid cC
  have H0 := Lib.hid (And.intro h0 hz)
  clear cC hz hk h0 hc
  have l8 : (c8 l).length ≤ 19 := by simp [c8]; omega
  have l12 : (c12 l).length ≤ 19 := by simp [c12]; omega
  obtain ⟨r8, hr8⟩ : ∃ r, TX.numL (c8 l) = r := ⟨_, rfl⟩
  have H8 := Lib.hid (And.intro hr8 l8)
  clear hr8 l8
  go_enter Tryd.func17, Tryd.ntmps17
  go_wp2_with (fail)
  refine CC.out.mono ?_
  rintro e w1 ⟨rfl, rfl⟩
  go_wp2_with (fail)
  refine (number_at (c8 l) r8 H8.out.1 w1 H8.out.2).mono ?_
  rintro e w2 ⟨rfl, k1⟩
  have H1 := Lib.hid k1
  clear k1
  cases r8 with
  | none =>
    have HR : Hid (VP (TX.parseL l) = VP ⟨[], 0, false, 201⟩) := Lib.hid (by rw [parse_sum l H0.out.1 H0.out.2 (by rw [H8.out.1]; simp)])
    unfold numW
    go_wp2
    go_returns
    exact ⟨by rw [HR.out] <;> rfl, H1.out⟩
  | some n8 =>
    unfold numW
    go_wp2_with (fail)
    refine (tsum_any l w2 (by have := H0.out.1; omega)).mono ?_
    rintro e w3 ⟨rfl, rfl⟩
    obtain ⟨m, hm⟩ : ∃ m, TX.sumTo l l.length = m := ⟨_, rfl⟩
    rw [hm]
    rw [show l.length = 512 from H0.out.1] at hm
    by_cases he : n8 = m
    case neg =>
      have HR : Hid (VP (TX.parseL l) = VP ⟨[], 0, false, 201⟩) := Lib.hid (by rw [parse_sum l H0.out.1 H0.out.2 (by rw [H8.out.1, hm]; simpa using he)])
      have he' : ¬ (n8 : Int) = (m : Int) := by omega
      clear hm he
      go_wp2
      go_returns
      exact ⟨by rw [HR.out] <;> rfl, H1.out⟩
    subst he
    have hs : TX.numL (c8 l) = some (TX.sumTo l 512) := by rw [H8.out.1, hm]
    obtain ⟨r12, hr12⟩ : ∃ r, TX.numL (c12 l) = r := ⟨_, rfl⟩
    have H12 := Lib.hid (And.intro hr12 (And.intro l12 hs))
    clear hr12 l12 hs hm
    go_wp2_with (fail)
    refine (number_at (c12 l) r12 H12.out.1 w2 H12.out.2.1).mono ?_
    rintro e w3 ⟨rfl, k2⟩
    have H2 := Lib.hid (And.intro (H1.out.trans' k2) (HM.out.kept (H1.out.trans' k2)))
    clear k2
    cases r12 with
    | none =>
      have HR : Hid (VP (TX.parseL l) = VP ⟨[], 0, false, 200⟩) := Lib.hid (by rw [parse_none l H0.out.1 H0.out.2 H12.out.2.2 H12.out.1])
      unfold numW
      go_wp2
      go_returns
      exact ⟨by rw [HR.out] <;> rfl, H2.out.1⟩
    | some n =>
      unfold numW
      have hx5 : List.drop 257 (List.take 262 l) = c5 l := rfl
      have hbi := badB_iff l
      have HB := Lib.hid hbi
      clear hbi
      go_wp2_with (fail)
      all_goals first
        | (go_returns
           have hb : badB l := by
             rw [HB.out]
             first | (left; assumption) | (right; (try simp only [beq_iff_eq, beq_eq_false_iff_ne, bne_iff_ne] at *); omega)
           have HR : Hid (VP (TX.parseL l) = VP ⟨[], 0, false, 200⟩) := Lib.hid (by rw [parse_bad l n H0.out.1 H0.out.2 H12.out.2.2 H12.out.1 hb])
           exact ⟨by rw [HR.out] <;> rfl, H2.out.1⟩)
        | (go_returns
           have hb : ¬ badB l := by
             rw [HB.out]
             rintro (h | h)
             · exact h (by assumption)
             · (try simp only [beq_iff_eq, beq_eq_false_iff_ne, bne_iff_ne] at *); omega
           have HR : Hid (VP (TX.parseL l) = VP ⟨[], 0, false, 202⟩) := Lib.hid (by rw [parse_long l n H0.out.1 H0.out.2 H12.out.2.2 H12.out.1 hb (by omega)])
           exact ⟨by rw [HR.out] <;> rfl, H2.out.1⟩)
        | (have hb : ¬ badB l := by
             rw [HB.out]
             rintro (h | h)
             · exact h (by assumption)
             · (try simp only [beq_iff_eq, beq_eq_false_iff_ne, bne_iff_ne] at *); omega
           have HR : Hid (VP (TX.parseL l) = VP ⟨(l.take 100).takeWhile (· != 0), n, false, 0⟩) := Lib.hid (by rw [parse_ok l n H0.out.1 H0.out.2 H12.out.2.2 H12.out.1 hb (by omega)])
           refine (cut_any (l.take 100) _ (by simp; omega) H2.out.2).mono ?_
           rintro e w4 ⟨⟨a, b, rfl⟩, k4⟩
           have H4 := Lib.hid (H2.out.1.trans' k4)
           obtain ⟨t, ht⟩ : ∃ t, (l.take 100).takeWhile (· != 0) = t := ⟨_, rfl⟩
           rw [ht] at HR ⊢
           clear k4 ht
           go_wp2
           go_returns
           exact ⟨by rw [HR.out] <;> rfl, H4.out⟩)
        | skip
end Go.Proofs.YtgdioalhlmnhhaaDoor
