/- Walks and lemmas on the program of this seat, used by its statements; each theorem bears its own conditions. -/
import Derived.Test.YtdkjlaldhohbmaaGreatOC
import Derived.Handy
import Derived.OwnWalk
import Derived.Deep.AppendLies
import Derived.IntWalk
import Derived.Deep.CutRange
import Derived.Deep.RegionHeld3
namespace Go.Proofs.YtdkjlaldhohbmaaGreat
open Go.RowKit
set_option linter.unusedVariables false
set_option linter.unusedSimpArgs false
set_option maxHeartbeats 8000000
set_option maxRecDepth 100000
/-! ### Numbers as bytes -/
def putN : Nat → Nat → List UInt8
  | 0, _ => []
  | k + 1, n => UInt8.ofNat (n % 256) :: putN k (n / 256)
def getN : List UInt8 → Nat
  | [] => 0
  | c :: l => c.toNat + 256 * getN l
theorem putN_len (k : Nat) : ∀ n, (putN k n).length = k := by
  induction k with
  | zero => intro n; rfl
  | succ k ih => intro n; simp [putN, ih]
theorem putN_at (k : Nat) : ∀ (n i : Nat), i < k → byteAt (putN k n) i = UInt8.ofNat (n / 256 ^ i % 256) := by
  induction k with
  | zero => intro n i h; omega
  | succ k ih =>
    intro n i h
    cases i with
    | zero => simp [putN, byteAt]
    | succ i =>
      have := ih (n / 256) i (by omega)
      rw [Nat.div_div_eq_div_mul] at this
      rw [show (256 : Nat) ^ (i + 1) = 256 * 256 ^ i by rw [Nat.pow_succ, Nat.mul_comm]]
      rw [← this]
      rfl
theorem getN_put (k : Nat) : ∀ n, n < 256 ^ k → getN (putN k n) = n := by
  induction k with
  | zero => intro n h; simp at h; subst h; rfl
  | succ k ih =>
    intro n h
    have := ih (n / 256) (by rw [Nat.pow_succ] at h; omega)
    simp only [putN, getN, this]
    have hm : (UInt8.ofNat (n % 256)).toNat = n % 256 := by simp
    rw [hm]; omega
theorem getN_snoc (l : List UInt8) : ∀ c, getN (l ++ [c]) = getN l + c.toNat * 256 ^ l.length := by
  induction l with
  | nil => intro c; simp [getN]
  | cons d l ih =>
    intro c
    simp only [List.cons_append, getN, ih, List.length_cons]
    rw [show (256 : Nat) ^ (l.length + 1) = 256 * 256 ^ l.length by rw [Nat.pow_succ, Nat.mul_comm]]
    rw [Nat.mul_add, Nat.add_assoc]
    congr 2
    rw [← Nat.mul_assoc, ← Nat.mul_assoc, Nat.mul_comm 256 c.toNat]
theorem getN_lt (l : List UInt8) : getN l < 256 ^ l.length := by
  induction l with
  | nil => simp [getN]
  | cons c l ih =>
    have := c.toNat_lt
    simp only [getN, List.length_cons]
    rw [show (256 : Nat) ^ (l.length + 1) = 256 * 256 ^ l.length by rw [Nat.pow_succ, Nat.mul_comm]]
    omega
theorem fill_set (L : List UInt8) (j : Nat) (h : j < L.length) : (L.take j ++ List.replicate (L.length - j) 0).set j (byteAt L j) = L.take (j + 1) ++ List.replicate (L.length - (j + 1)) 0 := by
  have e : L.length - j = (L.length - (j + 1)) + 1 := by omega
  rw [e, List.replicate_succ, List.set_append, if_neg (by rw [List.length_take]; omega)]
  rw [List.length_take, Nat.min_eq_left (by omega), Nat.sub_self, List.set_cons_zero, List.take_succ_eq_append_getElem h, byteAt_eq L j h, List.append_assoc]
  rfl
theorem div_pow (n k : Nat) : (n : Int) / 2 ^ (8 * k) = ((n / 256 ^ k : Nat) : Int) := by
  rw [Int.natCast_ediv, Int.natCast_pow]
  congr 1
  rw [Int.pow_mul]
  rfl
theorem put_any (w : World) (n k : Nat) (hk : 1 ≤ k) (hk7 : k ≤ 7) (hn : n < 256 ^ k) : Calls Tryz.prog 74 #[I n, I k] w fun e w' => e = .returned (.tuple #[S (putN k n), I 0]) ∧ Kept [] w w' := by
  have hkI : (1 : Int) ≤ k := by omega
  have hk7I : (k : Int) ≤ 7 := by omega
  have hM := make_bytes w k (by omega)
  have hz : ((n : Int) / 2 ^ (8 * k) != 0) = false := by
    rw [div_pow, Nat.div_eq_of_lt hn]; rfl
  have hlen := putN_len k n
  have hrow : Row (w.alloc (.cells (Lib.byteCells (zerosL k)).toArray 5)) w.heap.size (zerosL k) := heap_new w _
  have hkp : Kept [] w (w.alloc (.cells (Lib.byteCells (zerosL k)).toArray 5)) := (Kept.refl _ _).alloc _
  have H0 := Lib.hid (And.intro hrow hkp)
  have HP := Lib.hid (fun i hi => putN_at k n i hi)
  obtain ⟨L, hL⟩ : ∃ L, putN k n = L := ⟨_, rfl⟩
  rw [hL] at hlen HP ⊢
  have HL := Lib.hid hlen
  clear hrow hkp hn hlen hL
  go_enter Tryz.func74, Tryz.ntmps74
  go_wp2_with (fail)
  go_loopw [29] (fun i wr => ∃ j : Nat, j ≤ k ∧ i = I j ∧ Row wr w.heap.size (L.take j ++ List.replicate (L.length - j) 0) ∧ Kept [] w wr) (fun i _ => k - (intOf i).toNat)
  case atStart => exact ⟨0, by omega, rfl, by rw [List.take_zero, List.nil_append, HL.out]; exact H0.out.1, H0.out.2⟩
  case round =>
    obtain ⟨j, hj, rfl, h3, k3⟩ := hrel
    by_cases hlt : j < k
    · have hltI : (j : Int) < k := by omega
      have hc := h3.cell j (by simp [HL.out]; omega)
      have hfree := h3.free
      have hv : IntKind.u8.wrap ((n : Int) / 2 ^ (8 * j)) = ((byteAt L j).toNat : Int) := by
        rw [div_pow, IntKind.wrap_u8, HP.out j hlt]
        simp
      have H3 := Lib.hid (And.intro h3 k3)
      clear h3 k3
      go_wp2_with (fail)
      go_roundw
      case rel =>
        have z1 := H3.out.1.set j (byteAt L j)
        rw [fill_set L j (by rw [HL.out]; exact hlt)] at z1
        have z2 := H3.out.2.setCell (.inr (Nat.le_refl _) : (⟨w.heap.size, j, none⟩ : Addr).block ∈ [] ∨ _) (B (byteAt L j))
        exact ⟨j + 1, by omega, by go_num, z1, z2⟩
      case measure => simp [intOf]; omega
    · have hje : j = k := by omega
      subst hje
      rw [HL.out, Nat.sub_self, List.take_of_length_le (by rw [HL.out]; exact Nat.le_refl _)] at h3
      simp only [List.replicate_zero, List.append_nil] at h3
      have hcv := conv_row h3 j
      rw [HL.out] at hcv
      have H3 := Lib.hid (And.intro h3 k3)
      clear h3 k3
      go_wp2_with (fail)
      go_ret2
      exact ⟨rfl, H3.out.2⟩
theorem or_next (a c k : Nat) (ha : a < 256 ^ k) (hc : c < 256) (hk : k ≤ 6) : bits .or .i64 (a : Int) (wrap64 ((c : Int) * 2 ^ (8 * k))) = ((a + c * 256 ^ k : Nat) : Int) := by
  have hp : 256 ^ k = 2 ^ (8 * k) := by rw [Nat.pow_mul]
  have hle : 256 ^ k ≤ 256 ^ 6 := Nat.pow_le_pow_right (by decide) hk
  have h6 : (256 : Nat) ^ 6 = 281474976710656 := by decide
  have hm : c * 256 ^ k ≤ 255 * 281474976710656 := Nat.mul_le_mul (by omega) (by omega)
  have e : (c : Int) * 2 ^ (8 * k) = ((c * 256 ^ k : Nat) : Int) := by
    rw [hp, Int.natCast_mul, Int.natCast_pow]
    rfl
  rw [e]
  have hw : wrap64 ((c * 256 ^ k : Nat) : Int) = ((c * 256 ^ k : Nat) : Int) := by
    unfold wrap64; omega
  rw [hw]
  have hor : (c * 256 ^ k) ||| a = c * 256 ^ k + a := by
    rw [hp, ← Nat.shiftLeft_eq, Nat.shiftLeft_add_eq_or_of_lt (by rw [← hp]; exact ha)]
  have key : (BitVec.ofInt 64 (a : Int) ||| BitVec.ofInt 64 ((c * 256 ^ k : Nat) : Int)).toNat = a + c * 256 ^ k := by
    rw [BitVec.toNat_or, BitVec.toNat_ofInt, BitVec.toNat_ofInt, Nat.or_comm]
    rw [show (((c * 256 ^ k : Nat) : Int) % ((2 ^ 64 : Nat) : Int)).toNat = c * 256 ^ k by omega, show ((a : Int) % ((2 ^ 64 : Nat) : Int)).toNat = a by omega, hor]
    omega
  show IntKind.i64.wrap (((BitVec.ofInt 64 (a : Int) ||| BitVec.ofInt 64 ((c * 256 ^ k : Nat) : Int)).toNat : Nat) : Int) = _
  rw [key, IntKind.wrap_i64]
  omega
theorem get_any (w : World) (s : List UInt8) (h1 : s ≠ []) (h7 : s.length ≤ 7) : Calls Tryz.prog 92 #[S s] w fun e w' => e = .returned (.tuple #[I (getN s), I 0]) ∧ w' = w := by
  have hse : (s == []) = false := by simpa using h1
  have hse2 : s.isEmpty = false := by simpa using h1
  have hlI : (s.length : Int) ≤ 7 := by omega
  clear h1
  go_enter Tryz.func92, Tryz.ntmps92
  go_wp2_with (fail)
  go_loopw [4, 15] (fun v i wr => ∃ k : Nat, k ≤ s.length ∧ i = I k ∧ v = I (getN (s.take k)) ∧ wr = w) (fun _ i _ => s.length - (intOf i).toNat)
  case atStart => exact ⟨0, by omega, rfl, rfl, rfl⟩
  case round =>
    obtain ⟨k, hk, rfl, rfl, hw⟩ := hrel
    replace hw := hw.symm
    subst hw
    by_cases hlt : k < s.length
    · have hltI : (k : Int) < s.length := by omega
      have hv : bits .or .i64 (getN (s.take k) : Int) (wrap64 (((byteAt s k).toNat : Int) * 2 ^ (8 * k))) = (getN (s.take (k + 1)) : Int) := by
        rw [or_next _ _ _ (by have := getN_lt (s.take k); rwa [List.length_take, Nat.min_eq_left hk] at this) (byteAt s k).toNat_lt (by omega)]
        rw [List.take_succ_eq_append_getElem hlt, getN_snoc, byteAt_eq s k hlt, List.length_take, Nat.min_eq_left hk]
      have HV := Lib.hid hv
      clear hv
      go_wp2_with (fail)
      go_roundw
      case rel => exact ⟨k + 1, by omega, by go_num, by rw [HV.out], trivial⟩
      case measure => simp [intOf]; omega
    · have hke : k = s.length := by omega
      subst hke
      rw [List.take_length]
      go_wp2_with (fail)
      go_ret2
      exact ⟨rfl, rfl⟩
end Go.Proofs.YtdkjlaldhohbmaaGreat
