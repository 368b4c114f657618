/- Walks and lemmas on the program of this seat, used by its statements; each theorem bears its own conditions. -/
import Derived.Test.YtlchdokpkaikhaaDoorUB
import Derived.Test.YtlchdokpkaikhaaDoorUD
import Derived.Handy
import Derived.IntWalk
import Derived.Deep.RegionHeld3
namespace Go.Proofs.YtlchdokpkaikhaaDoor
open Go.RowKit
set_option linter.unusedVariables false
set_option linter.unusedSimpArgs false
/-! ### digits, number -/
def dig : Nat → Nat → List UInt8
  | _, 0 => []
  | n, k + 1 => dig (n / 10) k ++ [UInt8.ofNat (48 + n % 10)]
def num (l : List UInt8) : Int := l.foldl (fun n c => 10 * n + (c.toNat : Int) - 48) 0
theorem dig_len (n k : Nat) : (dig n k).length = k := by
  induction k generalizing n with
  | zero => rfl
  | succ k ih => simp [dig, ih]
theorem num_append (a b : List UInt8) (n : Int) : (a ++ b).foldl (fun n c => 10 * n + (c.toNat : Int) - 48) n = b.foldl (fun n c => 10 * n + (c.toNat : Int) - 48) (a.foldl (fun n c => 10 * n + (c.toNat : Int) - 48) n) := List.foldl_append
theorem num_dig (n k : Nat) (h : n < 10 ^ k) : num (dig n k) = n := by
  induction k generalizing n with
  | zero => simp at h; subst h; rfl
  | succ k ih =>
    have h' : n / 10 < 10 ^ k := by rw [Nat.pow_succ] at h; omega
    have := ih (n / 10) h'
    unfold num at *
    rw [dig, num_append, this]
    simp only [List.foldl_cons, List.foldl_nil, UInt8.toNat_ofNat']
    omega
theorem digit_byte (n : Nat) : (48 : Int) + (n : Int).tmod 10 = ((UInt8.ofNat (48 + n % 10)).toNat : Int) := by
  rw [UInt8.toNat_ofNat', Int.tmod_eq_emod_of_nonneg (by omega)]; omega
theorem digit_wrap (n : Nat) : IntKind.u8.wrap ((48 : Int) + (n : Int).tmod 10) = ((UInt8.ofNat (48 + n % 10)).toNat : Int) := by
  have h := digit_byte n
  rw [h]; have := (UInt8.ofNat (48 + n % 10)).toNat_lt; exact IntWalk.u8_in _ (by omega)
theorem digit_emod (n : Nat) : (48 : Int) + (n : Int) % 10 = ((UInt8.ofNat (48 + n % 10)).toNat : Int) := by
  rw [UInt8.toNat_ofNat']; omega
theorem conv1 (w : World) (c : UInt8) :
    (convert 64 9 (.slice (some ⟨w.heap.size, 0, none⟩) 1 1)).run Tryd.prog (w.alloc (.cells #[.int .u8 (c.toNat : Int)] 5)) = .ok (S [c]) (w.alloc (.cells #[.int .u8 (c.toNat : Int)] 5)) := by
  have hr := run_convert_bytes_arg (P := Tryd.prog) (w.alloc (.cells #[.int .u8 (c.toNat : Int)] 5)) 64 5 Tryd.underlying64 Tryd.underlying5 w.heap.size 0 1 1 [(c.toNat : Int)] rfl (fun i hi => by
    obtain rfl : i = 0 := by omega
    rw [cell_at (heap_new w _)]; rfl) 9 Tryd.underlying9
  rw [hr]
  have : strOfNums [(c.toNat : Int)] = ⟨[c].toArray⟩ := by unfold strOfNums; simp
  rw [this]
set_option maxHeartbeats 2000000 in
set_option maxRecDepth 100000 in
theorem rdigits_any (n k : Nat) (w : World) (hn : n ≤ 9223372036854775807) (hk : k ≤ 1000) :
    Calls Tryd.prog 25 #[I n, I k] w fun e w' => e = .returned (S (dig n k)) ∧ Kept [] w w' := by
  go_enter Tryd.func25, Tryd.ntmps25
  go_wp2
  go_loopw [0, 5, 6] (fun a s i wr => ∃ (m j : Nat) (acc : List UInt8), a = I m ∧ s = S acc ∧ i = I ((k - j : Nat) : Int) ∧ j ≤ k ∧ m ≤ n ∧ dig m j ++ acc = dig n k ∧ acc.length + j = k ∧ Kept [] w wr) (fun _ _ i _ => k - (intOf i).toNat)
  case atStart => exact ⟨n, k, [], rfl, rfl, by simp, by omega, by omega, by simp, by simp, Kept.refl _ _⟩
  case round =>
    obtain ⟨m, j, acc, rfl, rfl, rfl, hj, hm, he, hl, hk'⟩ := hrel
    have HK := Lib.hid (And.intro he hk')
    clear he hk'
    cases j with
    | zero =>
      go_wp2
      go_ret
      exact ⟨ret_S (by have := HK.out.1; simpa [dig] using this), HK.out.2⟩
    | succ j =>
      have hlt : ((k - (j + 1) : Nat) : Int) < k := by omega
      obtain ⟨c, hc⟩ : ∃ c, UInt8.ofNat (48 + m % 10) = c := ⟨_, rfl⟩
      have hb := digit_emod m
      rw [hc] at hb
      have hcv := conv1 wr c
      have hl1 : 1 + acc.length ≤ 9223372036854775807 := by omega
      have HC := Lib.hid hc
      clear hc
      go_wp2
      go_roundw
      case rel =>
        refine ⟨m / 10, j, [c] ++ acc, by go_num, rfl, by go_num, by omega, by omega, ?_, by simp; omega, HK.out.2.alloc _⟩
        rw [← HK.out.1, dig, HC.out]; simp
      case measure => (simp [intOf]; omega)
set_option maxRecDepth 100000
theorem num_take (l : List UInt8) (p : Nat) (h : p < l.length) : num (l.take (p + 1)) = 10 * num (l.take p) + ((byteAt l p).toNat : Int) - 48 := by
  have e : l.take (p + 1) = l.take p ++ [byteAt l p] := by rw [List.take_add_one, List.getElem?_eq_getElem h, byteAt_eq l p h]; rfl
  rw [e]; unfold num; rw [List.foldl_append]; rfl
theorem num_bdt (l : List UInt8) (p : Nat) (h : p ≤ l.length) : -(30 * (10 ^ p - 1 : Int)) ≤ num (l.take p) ∧ num (l.take p) ≤ 30 * (10 ^ p - 1 : Int) := by
  induction p with
  | zero => simp [num]
  | succ p ih =>
    obtain ⟨h1, h2⟩ := ih (by omega)
    have hc := (byteAt l p).toNat_lt
    rw [num_take l p (by omega), Int.pow_succ]
    generalize (10 : Int) ^ p = x at *
    omega
theorem num_bd (l : List UInt8) : -(30 * (10 ^ l.length - 1 : Int)) ≤ num l ∧ num l ≤ 30 * (10 ^ l.length - 1 : Int) := by
  have := num_bdt l l.length (Nat.le_refl _)
  rwa [List.take_length] at this
theorem pow_le16 {k : Nat} (h : k ≤ 16) : (10 : Int) ^ k ≤ 10000000000000000 := by
  have := Nat.pow_le_pow_right (n := 10) (by decide) h
  have e : ((10 : Nat) ^ k : Nat) ≤ 10000000000000000 := this
  have e2 : (((10 : Nat) ^ k : Nat) : Int) ≤ 10000000000000000 := by omega
  rwa [Int.natCast_pow] at e2
theorem num_bd16 (l : List UInt8) (h : l.length ≤ 16) : -300000000000000000 ≤ num l ∧ num l ≤ 300000000000000000 := by
  have := num_bd l
  have := pow_le16 h
  omega
set_option maxHeartbeats 2000000 in
set_option maxRecDepth 100000 in
theorem rnumber_any (l : List UInt8) (w : World) (hl : l.length ≤ 16) :
    Calls Tryd.prog 30 #[S l] w fun e w' => e = .returned (I (num l)) ∧ w = w' := by
  have hl' : (l.length : Int) ≤ 16 := by omega
  go_enter Tryd.func30, Tryd.ntmps30
  go_wp2
  go_loop [3, 4] (fun n i => ∃ p : Nat, p ≤ l.length ∧ i = I p ∧ n = I (num (l.take p))) (fun _ i => l.length - (intOf i).toNat)
  case atStart => exact ⟨0, by omega, rfl, rfl⟩
  case round =>
    obtain ⟨p, hp, rfl, rfl⟩ := hrel
    by_cases hlt : p < l.length
    · have hlt' : (p : Int) < l.length := by omega
      have hb := num_bd16 (l.take p) (by rw [List.length_take]; omega)
      have hc := byteAt_le l p
      obtain ⟨hc0, hc1⟩ := hc
      obtain ⟨hb0, hb1⟩ := hb
      have HN := Lib.hid (num_take l p hlt)
      obtain ⟨x, hx⟩ : ∃ x, num (l.take p) = x := ⟨_, rfl⟩
      rw [hx] at hb0 hb1 HN
      rw [hx]
      have HX := Lib.hid hx
      clear hx
      go_wp2
      go_round
      case rel => exact ⟨p + 1, by omega, by go_num, by rw [HN.out]⟩
      case measure => (simp [intOf]; omega)
    · obtain rfl : p = l.length := by omega
      go_wp2
      go_ret
      exact ⟨rfl, rfl⟩
/-! ### The reference's Print -/
def printL (s : St) : List UInt8 :=
  (((((((((((([115, 116, 97, 116, 101, 32] ++ dig s.ph.toNat 1) ++ [32]) ++ dig s.id.toNat 10) ++ [32]) ++ dig s.sl.toNat 1) ++ [32]) ++ dig s.sz.toNat 8) ++ [32]) ++ dig s.sq.toNat 15) ++ [32]) ++ dig (if s.ok then 1 else 0) 1) ++ [32]) ++ dig s.la.toNat 10 ++ [10]
def printF (s : St) : List UInt8 × Int := if MayP s then (printL s, 0) else ([], 250)
theorem rmay_at' (s : St) (b : Bool) (w : World) (h : mayB s = b) :
    Calls Tryd.prog 13 #[VS s] w fun e w' => e = .returned (.bool b) ∧ w' = w.alloc (boxS s) := h ▸ rmay_any s w
theorem rdigits_at (a b : Int) (n k : Nat) (w : World) (hb : b = k) (ha : a = n) (hn : n ≤ 9223372036854775807) (hk : k ≤ 1000) :
    Calls Tryd.prog 25 #[I a, I b] w fun e w' => e = .returned (S (dig n k)) ∧ Kept [] w w' := by rw [ha, hb]; exact rdigits_any n k w hn hk
set_option maxHeartbeats 4000000 in
set_option maxRecDepth 100000 in
theorem rprint_no (s : St) (w : World) (h : ¬ MayP s) :
    Calls Tryd.prog 15 #[VS s] w fun e w' => e = .returned (.tuple #[S [], I 250]) ∧ Kept [] w w' := by
  have HM := Lib.hid (mayB_f h)
  clear h
  go_enter Tryd.func15, Tryd.ntmps15
  go_wp2_with (fail)
  refine (rmay_at' s false _ HM.out).mono ?_
  rintro r w1 ⟨rfl, rfl⟩
  go_wp2
  go_ret2
  exact ⟨rfl, ((Kept.refl _ _).alloc _).alloc _⟩
abbrev SP (B : Nat) (s : St) (W : World) (w' : World) : Prop :=
  w'.cell? ⟨B, 0, none⟩ = some (I s.ph) ∧ w'.cell? ⟨B, 1, none⟩ = some (I s.id) ∧ w'.cell? ⟨B, 2, none⟩ = some (I s.sl) ∧ w'.cell? ⟨B, 3, none⟩ = some (I s.sz) ∧ w'.cell? ⟨B, 4, none⟩ = some (I s.sq) ∧ w'.cell? ⟨B, 6, none⟩ = some (I s.la) ∧ (B < w'.heap.size ∧ Kept [] W w')
theorem SP.step {B : Nat} {s : St} {W w1 w2 : World} (h : SP B s W w1) (k : Kept [] w1 w2) : SP B s W w2 := by
  obtain ⟨h0, h1, h2, h3, h4, h6, hB, hk⟩ := h
  have hc : ∀ i, w2.cell? ⟨B, i, none⟩ = w1.cell? ⟨B, i, none⟩ := fun i => k.cell (p := ⟨B, i, none⟩) hB (by simp)
  exact ⟨by rw [hc]; exact h0, by rw [hc]; exact h1, by rw [hc]; exact h2, by rw [hc]; exact h3, by rw [hc]; exact h4, by rw [hc]; exact h6, Nat.lt_of_lt_of_le hB k.size, hk.trans' k⟩
theorem SP.drew {B : Nat} {s : St} {W w1 : World} (h : SP B s W w1) : SP B s W w1.drew := h.step (Kept.refl _ _).drew
set_option maxHeartbeats 4000000 in
set_option maxRecDepth 100000 in
theorem rprint_yes (s : St) (w : World) (h : MayP s) (hk : s.ok = true) :
    Calls Tryd.prog 15 #[VS s] w fun e w' => e = .returned (.tuple #[S (printL s), I 0]) ∧ Kept [] w w' := by
  have HM := Lib.hid (mayB_t h)
  have HP := Lib.hid (And.intro h hk)
  clear h hk
  go_enter Tryd.func15, Tryd.ntmps15
  go_wp2_with (fail)
  refine (rmay_at' s true _ HM.out).mono ?_
  rintro r w1 ⟨rfl, rfl⟩
  have hk := HP.out.2
  go_wp2_with (fail)
  have hsp : SP w.heap.size s (w.alloc (boxS s)) ((w.alloc (boxS s)).alloc (boxS s)) := by
    have hc := (Kept.refl [] (w.alloc (boxS s))).alloc (boxS s)
    have hat : ((w.alloc (boxS s)).alloc (boxS s)).heap[w.heap.size]? = some (boxS s) := hc.at (heap_new w _) (by simp)
    exact ⟨by rw [cell_at hat]; rfl, by rw [cell_at hat]; rfl, by rw [cell_at hat]; rfl, by rw [cell_at hat]; rfl, by rw [cell_at hat]; rfl, by rw [cell_at hat]; rfl, by simp; omega, hc⟩
  have hw : (w.alloc (.cells #[I s.ph, I s.id, I s.sl, I s.sz, I s.sq, .bool true, I s.la] 23)).alloc (boxS s) = (w.alloc (boxS s)).alloc (boxS s) := by rw [← hk]
  rw [hw]
  clear hw hk
  generalize (w.alloc (boxS s)).alloc (boxS s) = W1 at hsp ⊢
  have hM := HP.out.1
  have C1 := Lib.hid (fun W => rdigits_at s.ph 1 (s.ph.toNat) 1 W rfl (by obtain ⟨_, h | h | h | h⟩ := hM <;> omega) (by obtain ⟨_, h | h | h | h⟩ := hM <;> omega) (by omega))
  have C2 := Lib.hid (fun W => rdigits_at s.id 10 (s.id.toNat) 10 W rfl (by have := hM.1; omega) (by have := hM.1; omega) (by omega))
  have C3 := Lib.hid (fun W => rdigits_at s.sl 1 (s.sl.toNat) 1 W rfl (by have := hM.1; omega) (by have := hM.1; omega) (by omega))
  have C4 := Lib.hid (fun W => rdigits_at s.sz 8 (s.sz.toNat) 8 W rfl (by have := hM.1; omega) (by have := hM.1; omega) (by omega))
  have C5 := Lib.hid (fun W => rdigits_at s.sq 15 (s.sq.toNat) 15 W rfl (by have := hM.1; omega) (by have := hM.1; omega) (by omega))
  have C6 := Lib.hid (fun W => rdigits_at 1 1 (1) 1 W rfl (by omega) (by omega) (by omega))
  have C7 := Lib.hid (fun W => rdigits_at s.la 10 (s.la.toNat) 10 W rfl (by have := hM.1; omega) (by have := hM.1; omega) (by omega))
  clear hM
  have L1 := dig_len s.ph.toNat 1
  have L2 := dig_len s.id.toNat 10
  have L3 := dig_len s.sl.toNat 1
  have L4 := dig_len s.sz.toNat 8
  have L5 := dig_len s.sq.toNat 15
  have L6 := dig_len 1 1
  have L7 := dig_len s.la.toNat 10
  go_region_held3 (fun w' => SP w.heap.size s (w.alloc (boxS s)) w')
    (first | assumption | exact SP.drew hsp | exact SP.step (by assumption) k2)
    (first
      | (go_at_call 25; (with_reducible refine (C1.out _).mono ?_); rintro e w2 ⟨rfl, k2⟩)
      | (go_at_call 25; (with_reducible refine (C2.out _).mono ?_); rintro e w2 ⟨rfl, k2⟩)
      | (go_at_call 25; (with_reducible refine (C3.out _).mono ?_); rintro e w2 ⟨rfl, k2⟩)
      | (go_at_call 25; (with_reducible refine (C4.out _).mono ?_); rintro e w2 ⟨rfl, k2⟩)
      | (go_at_call 25; (with_reducible refine (C5.out _).mono ?_); rintro e w2 ⟨rfl, k2⟩)
      | (go_at_call 25; (with_reducible refine (C6.out _).mono ?_); rintro e w2 ⟨rfl, k2⟩)
      | (go_at_call 25; (with_reducible refine (C7.out _).mono ?_); rintro e w2 ⟨rfl, k2⟩))
  have hfin := ‹SP w.heap.size s (w.alloc (boxS s)) _›
  go_wp2
  go_ret2
  refine ⟨?_, ((Kept.refl [] w).alloc _).trans' hfin.2.2.2.2.2.2.2⟩
  have hk := HP.out.2
  simp [printL, hk]
set_option maxHeartbeats 4000000 in
set_option maxRecDepth 100000 in
theorem rprint_yes0 (s : St) (w : World) (h : MayP s) (hk : s.ok = false) :
    Calls Tryd.prog 15 #[VS s] w fun e w' => e = .returned (.tuple #[S (printL s), I 0]) ∧ Kept [] w w' := by
  have HM := Lib.hid (mayB_t h)
  have HP := Lib.hid (And.intro h hk)
  clear h hk
  go_enter Tryd.func15, Tryd.ntmps15
  go_wp2_with (fail)
  refine (rmay_at' s true _ HM.out).mono ?_
  rintro r w1 ⟨rfl, rfl⟩
  have hk := HP.out.2
  go_wp2_with (fail)
  have hsp : SP w.heap.size s (w.alloc (boxS s)) ((w.alloc (boxS s)).alloc (boxS s)) := by
    have hc := (Kept.refl [] (w.alloc (boxS s))).alloc (boxS s)
    have hat : ((w.alloc (boxS s)).alloc (boxS s)).heap[w.heap.size]? = some (boxS s) := hc.at (heap_new w _) (by simp)
    exact ⟨by rw [cell_at hat]; rfl, by rw [cell_at hat]; rfl, by rw [cell_at hat]; rfl, by rw [cell_at hat]; rfl, by rw [cell_at hat]; rfl, by rw [cell_at hat]; rfl, by simp; omega, hc⟩
  have hw : (w.alloc (.cells #[I s.ph, I s.id, I s.sl, I s.sz, I s.sq, .bool false, I s.la] 23)).alloc (boxS s) = (w.alloc (boxS s)).alloc (boxS s) := by rw [← hk]
  rw [hw]
  clear hw hk
  generalize (w.alloc (boxS s)).alloc (boxS s) = W1 at hsp ⊢
  have hM := HP.out.1
  have C1 := Lib.hid (fun W => rdigits_at s.ph 1 (s.ph.toNat) 1 W rfl (by obtain ⟨_, h | h | h | h⟩ := hM <;> omega) (by obtain ⟨_, h | h | h | h⟩ := hM <;> omega) (by omega))
  have C2 := Lib.hid (fun W => rdigits_at s.id 10 (s.id.toNat) 10 W rfl (by have := hM.1; omega) (by have := hM.1; omega) (by omega))
  have C3 := Lib.hid (fun W => rdigits_at s.sl 1 (s.sl.toNat) 1 W rfl (by have := hM.1; omega) (by have := hM.1; omega) (by omega))
  have C4 := Lib.hid (fun W => rdigits_at s.sz 8 (s.sz.toNat) 8 W rfl (by have := hM.1; omega) (by have := hM.1; omega) (by omega))
  have C5 := Lib.hid (fun W => rdigits_at s.sq 15 (s.sq.toNat) 15 W rfl (by have := hM.1; omega) (by have := hM.1; omega) (by omega))
  have C6 := Lib.hid (fun W => rdigits_at 0 1 (0) 1 W rfl (by omega) (by omega) (by omega))
  have C7 := Lib.hid (fun W => rdigits_at s.la 10 (s.la.toNat) 10 W rfl (by have := hM.1; omega) (by have := hM.1; omega) (by omega))
  clear hM
  have L1 := dig_len s.ph.toNat 1
  have L2 := dig_len s.id.toNat 10
  have L3 := dig_len s.sl.toNat 1
  have L4 := dig_len s.sz.toNat 8
  have L5 := dig_len s.sq.toNat 15
  have L6 := dig_len 0 1
  have L7 := dig_len s.la.toNat 10
  go_region_held3 (fun w' => SP w.heap.size s (w.alloc (boxS s)) w')
    (first | assumption | exact SP.drew hsp | exact SP.step (by assumption) k2)
    (first
      | (go_at_call 25; (with_reducible refine (C1.out _).mono ?_); rintro e w2 ⟨rfl, k2⟩)
      | (go_at_call 25; (with_reducible refine (C2.out _).mono ?_); rintro e w2 ⟨rfl, k2⟩)
      | (go_at_call 25; (with_reducible refine (C3.out _).mono ?_); rintro e w2 ⟨rfl, k2⟩)
      | (go_at_call 25; (with_reducible refine (C4.out _).mono ?_); rintro e w2 ⟨rfl, k2⟩)
      | (go_at_call 25; (with_reducible refine (C5.out _).mono ?_); rintro e w2 ⟨rfl, k2⟩)
      | (go_at_call 25; (with_reducible refine (C6.out _).mono ?_); rintro e w2 ⟨rfl, k2⟩)
      | (go_at_call 25; (with_reducible refine (C7.out _).mono ?_); rintro e w2 ⟨rfl, k2⟩))
  have hfin := ‹SP w.heap.size s (w.alloc (boxS s)) _›
  go_wp2
  go_ret2
  refine ⟨?_, ((Kept.refl [] w).alloc _).trans' hfin.2.2.2.2.2.2.2⟩
  have hk := HP.out.2
  simp [printL, hk]
theorem rprint_any (s : St) (w : World) :
    Calls Tryd.prog 15 #[VS s] w fun e w' => e = .returned (.tuple #[S (printF s).1, I (printF s).2]) ∧ Kept [] w w' := by
  unfold printF
  by_cases h : MayP s
  · rw [if_pos h]
    cases hk : s.ok
    · exact rprint_yes0 s w h hk
    · exact rprint_yes s w h hk
  · rw [if_neg h]
    exact rprint_no s w h
end Go.Proofs.YtlchdokpkaikhaaDoor
