/- Walks and lemmas on the program of this seat, used by its statements; each theorem bears its own conditions. -/
import Derived.Test.YtgdioalhlmnhhaaDoorHG
import Derived.Handy
import Derived.IntWalk
namespace Go.Proofs.YtgdioalhlmnhhaaDoor
open Go.RowKit
set_option linter.unusedVariables false
set_option linter.unusedSimpArgs false
set_option maxHeartbeats 8000000
set_option maxRecDepth 100000
/-! ### The reference's first -/
theorem rfirst_any (l : List UInt8) (w : World) (hl : l.length ≤ 9223372036854775807) (r : Nat) (hr : statF l = r) :
    Calls Tryd.prog 72 #[S l] w fun e w' => e = .returned (I r) ∧ Kept [] w w' := by
  have hl' : (l.length : Int) ≤ 9223372036854775807 := by omega
  have HR := Lib.hid hr
  clear hr
  by_cases h13 : 13 ≤ l.length
  case neg =>
    have HF : Hid (r = 0) := Lib.hid (by rw [← HR.out]; unfold statF; rw [show decide (13 ≤ l.length) = false from decide_eq_false h13]; rfl)
    have h13' : (l.length : Int) < 13 := by omega
    go_enter Tryd.func72, Tryd.ntmps72
    go_wp2_with (fail)
    all_goals (go_ret; exact ⟨by rw [HF.out] <;> rfl, (Kept.refl _ _)⟩)
  have h13' : ¬ (l.length : Int) < 13 := by omega
  have h13'' : (13 : Int) ≤ l.length := by omega
  obtain ⟨b1, hb1⟩ : ∃ b, (l.take 7 == httpL) = b := ⟨_, rfl⟩
  obtain ⟨b2, hb2⟩ : ∃ b, (byteAt l 8 == 32) = b := ⟨_, rfl⟩
  obtain ⟨b3, hb3⟩ : ∃ b, (byteAt l 12 == 32) = b := ⟨_, rfl⟩
  obtain ⟨b6, hb6⟩ : ∃ b, textB (l.drop 13) = b := ⟨_, rfl⟩
  have HP := Lib.hid (statF_parts ⟨decide_eq_true h13, hb1, hb2, hb3, rfl, rfl, hb6⟩)
  have HB1 : (l.take 7 == [72, 84, 84, 80, 47, 49, 46]) = b1 := hb1
  have HB2 := byte_eq32 _ b2 hb2
  have HB3 := byte_eq32 _ b3 hb3
  have HT : Hid (Calls Tryd.prog 74 #[S (l.drop 13)] w fun e w' => e = .returned (.bool b6) ∧ w = w') := Lib.hid (by rw [← hb6]; exact ok_any _ w (by simp; omega))
  clear hb1 hb2 hb3 hb6
  cases b1 with
  | false =>
    have HF : Hid (r = 0) := Lib.hid (by rw [← HR.out, HP.out]; simp)
    go_enter Tryd.func72, Tryd.ntmps72
    go_wp2_with (fail)
    all_goals (go_ret; exact ⟨by rw [HF.out] <;> rfl, (Kept.refl _ _)⟩)
  | true =>
  cases b2 with
  | false =>
    have HN2 : (((byteAt l 8).toNat : Int) != 32) = true := by rw [bne, HB2]; rfl
    clear HB2
    have HF : Hid (r = 0) := Lib.hid (by rw [← HR.out, HP.out]; simp)
    go_enter Tryd.func72, Tryd.ntmps72
    go_wp2_with (fail)
    all_goals (go_ret; exact ⟨by rw [HF.out] <;> rfl, (Kept.refl _ _)⟩)
  | true =>
  have HN2 : (((byteAt l 8).toNat : Int) != 32) = false := by rw [bne, HB2]; rfl
  clear HB2
  cases b3 with
  | false =>
    have HN3 : (((byteAt l 12).toNat : Int) != 32) = true := by rw [bne, HB3]; rfl
    clear HB3
    have HF : Hid (r = 0) := Lib.hid (by rw [← HR.out, HP.out]; simp)
    go_enter Tryd.func72, Tryd.ntmps72
    go_wp2_with (fail)
    all_goals (go_ret; exact ⟨by rw [HF.out] <;> rfl, (Kept.refl _ _)⟩)
  | true =>
  have HN3 : (((byteAt l 12).toNat : Int) != 32) = false := by rw [bne, HB3]; rfl
  clear HB3
  cases b6 with
  | false =>
    have HF : Hid (r = 0) := Lib.hid (by rw [← HR.out, HP.out]; simp)
    go_enter Tryd.func72, Tryd.ntmps72
    go_wp2_with ((go_at_call 74; (with_reducible refine HT.out.mono ?_); rintro r w5 ⟨rfl, rfl⟩))
    all_goals (go_ret; exact ⟨by rw [HF.out] <;> rfl, (Kept.refl _ _)⟩)
  | true =>
  obtain ⟨c7, hc7⟩ : ∃ c, byteAt l 7 = c := ⟨_, rfl⟩
  obtain ⟨c9, hc9⟩ : ∃ c, byteAt l 9 = c := ⟨_, rfl⟩
  obtain ⟨c10, hc10⟩ : ∃ c, byteAt l 10 = c := ⟨_, rfl⟩
  obtain ⟨c11, hc11⟩ : ∃ c, byteAt l 11 = c := ⟨_, rfl⟩
  have hst : statN l = 100 * (c9.toNat - 48) + 10 * (c10.toNat - 48) + (c11.toNat - 48) := by unfold statN; rw [hc9, hc10, hc11]
  rw [hc7, hc9, hc10, hc11] at HP
  cases hd7 : digC c7 with
  | false =>
    have HF : Hid (r = 0) := Lib.hid (by rw [← HR.out, HP.out, hd7]; simp)
    have HD7 : Hid (∀ w, Calls Tryd.prog 104 #[B c7] w fun e w' => e = .returned (.bool false) ∧ w = w') := Lib.hid fun w => digit_at c7 w false hd7
    clear hd7 hst
    go_enter Tryd.func72, Tryd.ntmps72
    go_wp2_with (first
      | (go_at_call 74; (with_reducible refine HT.out.mono ?_); rintro r w5 ⟨rfl, rfl⟩)
      | (go_at_call 104; (with_reducible refine (HD7.out w).mono ?_); rintro r w5 ⟨rfl, rfl⟩)
      | (go_at_call 104; (with_reducible refine (HD9.out w).mono ?_); rintro r w5 ⟨rfl, rfl⟩)
      | (go_at_call 104; (with_reducible refine (HD10.out w).mono ?_); rintro r w5 ⟨rfl, rfl⟩)
      | (go_at_call 104; (with_reducible refine (HD11.out w).mono ?_); rintro r w5 ⟨rfl, rfl⟩))
    all_goals (go_ret; exact ⟨by rw [HF.out] <;> rfl, (Kept.refl _ _)⟩)
  | true =>
  obtain ⟨d7a, d7b⟩ := digC_yes hd7
  have d7A : (48 : Int) ≤ c7.toNat := by omega
  have d7B : (c7.toNat : Int) ≤ 57 := by omega
  have HD7 : Hid (∀ w, Calls Tryd.prog 104 #[B c7] w fun e w' => e = .returned (.bool true) ∧ w = w') := Lib.hid fun w => digit_at c7 w true hd7
  cases hd9 : digC c9 with
  | false =>
    have HF : Hid (r = 0) := Lib.hid (by rw [← HR.out, HP.out, hd9]; simp)
    have HD9 : Hid (∀ w, Calls Tryd.prog 104 #[B c9] w fun e w' => e = .returned (.bool false) ∧ w = w') := Lib.hid fun w => digit_at c9 w false hd9
    clear hd9 hst
    go_enter Tryd.func72, Tryd.ntmps72
    go_wp2_with (first
      | (go_at_call 74; (with_reducible refine HT.out.mono ?_); rintro r w5 ⟨rfl, rfl⟩)
      | (go_at_call 104; (with_reducible refine (HD7.out w).mono ?_); rintro r w5 ⟨rfl, rfl⟩)
      | (go_at_call 104; (with_reducible refine (HD9.out w).mono ?_); rintro r w5 ⟨rfl, rfl⟩)
      | (go_at_call 104; (with_reducible refine (HD10.out w).mono ?_); rintro r w5 ⟨rfl, rfl⟩)
      | (go_at_call 104; (with_reducible refine (HD11.out w).mono ?_); rintro r w5 ⟨rfl, rfl⟩))
    all_goals (go_ret; exact ⟨by rw [HF.out] <;> rfl, (Kept.refl _ _)⟩)
  | true =>
  obtain ⟨d9a, d9b⟩ := digC_yes hd9
  have d9A : (48 : Int) ≤ c9.toNat := by omega
  have d9B : (c9.toNat : Int) ≤ 57 := by omega
  have HD9 : Hid (∀ w, Calls Tryd.prog 104 #[B c9] w fun e w' => e = .returned (.bool true) ∧ w = w') := Lib.hid fun w => digit_at c9 w true hd9
  cases hd10 : digC c10 with
  | false =>
    have HF : Hid (r = 0) := Lib.hid (by rw [← HR.out, HP.out, hd10]; simp)
    have HD10 : Hid (∀ w, Calls Tryd.prog 104 #[B c10] w fun e w' => e = .returned (.bool false) ∧ w = w') := Lib.hid fun w => digit_at c10 w false hd10
    clear hd10 hst
    go_enter Tryd.func72, Tryd.ntmps72
    go_wp2_with (first
      | (go_at_call 74; (with_reducible refine HT.out.mono ?_); rintro r w5 ⟨rfl, rfl⟩)
      | (go_at_call 104; (with_reducible refine (HD7.out w).mono ?_); rintro r w5 ⟨rfl, rfl⟩)
      | (go_at_call 104; (with_reducible refine (HD9.out w).mono ?_); rintro r w5 ⟨rfl, rfl⟩)
      | (go_at_call 104; (with_reducible refine (HD10.out w).mono ?_); rintro r w5 ⟨rfl, rfl⟩)
      | (go_at_call 104; (with_reducible refine (HD11.out w).mono ?_); rintro r w5 ⟨rfl, rfl⟩))
    all_goals (go_ret; exact ⟨by rw [HF.out] <;> rfl, (Kept.refl _ _)⟩)
  | true =>
  obtain ⟨d10a, d10b⟩ := digC_yes hd10
  have d10A : (48 : Int) ≤ c10.toNat := by omega
  have d10B : (c10.toNat : Int) ≤ 57 := by omega
  have HD10 : Hid (∀ w, Calls Tryd.prog 104 #[B c10] w fun e w' => e = .returned (.bool true) ∧ w = w') := Lib.hid fun w => digit_at c10 w true hd10
  cases hd11 : digC c11 with
  | false =>
    have HF : Hid (r = 0) := Lib.hid (by rw [← HR.out, HP.out, hd11]; simp)
    have HD11 : Hid (∀ w, Calls Tryd.prog 104 #[B c11] w fun e w' => e = .returned (.bool false) ∧ w = w') := Lib.hid fun w => digit_at c11 w false hd11
    clear hd11 hst
    go_enter Tryd.func72, Tryd.ntmps72
    go_wp2_with (first
      | (go_at_call 74; (with_reducible refine HT.out.mono ?_); rintro r w5 ⟨rfl, rfl⟩)
      | (go_at_call 104; (with_reducible refine (HD7.out w).mono ?_); rintro r w5 ⟨rfl, rfl⟩)
      | (go_at_call 104; (with_reducible refine (HD9.out w).mono ?_); rintro r w5 ⟨rfl, rfl⟩)
      | (go_at_call 104; (with_reducible refine (HD10.out w).mono ?_); rintro r w5 ⟨rfl, rfl⟩)
      | (go_at_call 104; (with_reducible refine (HD11.out w).mono ?_); rintro r w5 ⟨rfl, rfl⟩))
    all_goals (go_ret; exact ⟨by rw [HF.out] <;> rfl, (Kept.refl _ _)⟩)
  | true =>
  obtain ⟨d11a, d11b⟩ := digC_yes hd11
  have d11A : (48 : Int) ≤ c11.toNat := by omega
  have d11B : (c11.toNat : Int) ≤ 57 := by omega
  have HD11 : Hid (∀ w, Calls Tryd.prog 104 #[B c11] w fun e w' => e = .returned (.bool true) ∧ w = w') := Lib.hid fun w => digit_at c11 w true hd11
  rw [hd7, hd9, hd10, hd11] at HP
  clear hd7 hd9 hd10 hd11
  obtain ⟨x, hx⟩ : ∃ x : Nat, statN l = x := ⟨_, rfl⟩
  rw [hx] at HP hst
  have hxz : 100 * ((c9.toNat : Int) - 48) + 10 * ((c10.toNat : Int) - 48) + ((c11.toNat : Int) - 48) = (x : Int) := by omega
  have HXZ := Lib.hid hxz
  have hxb : x ≤ 999 := by omega
  clear hx hst hxz d7a d7b d9a d9b d10a d10b d11a d11b
  go_enter Tryd.func72, Tryd.ntmps72
  go_wp2_with (first
      | (go_at_call 74; (with_reducible refine HT.out.mono ?_); rintro r w5 ⟨rfl, rfl⟩)
      | (go_at_call 104; (with_reducible refine (HD7.out w).mono ?_); rintro r w5 ⟨rfl, rfl⟩)
      | (go_at_call 104; (with_reducible refine (HD9.out w).mono ?_); rintro r w5 ⟨rfl, rfl⟩)
      | (go_at_call 104; (with_reducible refine (HD10.out w).mono ?_); rintro r w5 ⟨rfl, rfl⟩)
      | (go_at_call 104; (with_reducible refine (HD11.out w).mono ?_); rintro r w5 ⟨rfl, rfl⟩))
  go_quiet (fail)
  rw [HXZ.out]
  by_cases h1 : 100 ≤ x
  case neg =>
    have HF : Hid (r = 0) := Lib.hid (by rw [← HR.out, HP.out, if_neg (by omega : ¬ (100 ≤ x ∧ x ≤ 599))]; simp)
    have h1' : (x : Int) < 100 := by omega
    go_wp2_with (fail)
    go_ret
    exact ⟨by rw [HF.out] <;> rfl, (Kept.refl _ _).drewN _⟩
  have h1' : ¬ (x : Int) < 100 := by omega
  by_cases h2 : x ≤ 599
  case neg =>
    have HF : Hid (r = 0) := Lib.hid (by rw [← HR.out, HP.out, if_neg (by omega : ¬ (100 ≤ x ∧ x ≤ 599))]; simp)
    have h2' : (x : Int) > 599 := by omega
    go_wp2_with (fail)
    go_ret
    exact ⟨by rw [HF.out] <;> rfl, (Kept.refl _ _).drewN _⟩
  have h2' : ¬ (x : Int) > 599 := by omega
  have HF : Hid (r = x) := Lib.hid (by rw [← HR.out, HP.out, if_pos (⟨h1, h2⟩ : 100 ≤ x ∧ x ≤ 599)]; simp)
  go_wp2_with (fail)
  go_ret
  exact ⟨by rw [HF.out] <;> rfl, (Kept.refl _ _).drewN _⟩
/-! ### Num, Get, Same -/
theorem digit_emod (n : Nat) : (48 : Int) + (n : Int) % 10 = ((UInt8.ofNat (48 + n % 10)).toNat : Int) := by
  rw [UInt8.toNat_ofNat']; omega
theorem conv1 (w : World) (c : UInt8) :
    (convert 31 9 (.slice (some ⟨w.heap.size, 0, none⟩) 1 1)).run Tryd.prog (w.alloc (.cells #[.int .u8 (c.toNat : Int)] 5)) = .ok (S [c]) (w.alloc (.cells #[.int .u8 (c.toNat : Int)] 5)) := by
  have hr := run_convert_bytes_arg (P := Tryd.prog) (w.alloc (.cells #[.int .u8 (c.toNat : Int)] 5)) 31 5 Tryd.underlying31 Tryd.underlying5 w.heap.size 0 1 1 [(c.toNat : Int)] rfl (fun i hi => by
    obtain rfl : i = 0 := by omega
    rw [cell_at (heap_new w _)]; rfl) 9 Tryd.underlying9
  rw [hr]
  have : strOfNums [(c.toNat : Int)] = ⟨[c].toArray⟩ := by unfold strOfNums; simp
  rw [this]
theorem conv1_at {W W' : World} {b : Nat} {c : UInt8} (k : Kept [] W W') (hW : W.heap[b]? = some (.cells #[.int .u8 (c.toNat : Int)] 5 (0, 0))) :
    (convert 31 9 (.slice (some ⟨b, 0, none⟩) 1 1)).run Tryd.prog W' = .ok (S [c]) W' := by
  have hb := k.at hW (by simp)
  have hr := run_convert_bytes_arg (P := Tryd.prog) W' 31 5 Tryd.underlying31 Tryd.underlying5 b 0 1 1 [(c.toNat : Int)] rfl (fun i hi => by
    obtain rfl : i = 0 := by omega
    rw [cell_at hb]; rfl) 9 Tryd.underlying9
  rw [hr]
  have : strOfNums [(c.toNat : Int)] = ⟨[c].toArray⟩ := by unfold strOfNums; simp
  rw [this]
theorem dec_step (n : Nat) (h : ¬ n < 10) : Lib.decDigits n = Lib.decDigits (n / 10) ++ [UInt8.ofNat (48 + n % 10)] := by
  rw [Lib.decDigits, dif_neg h]
theorem dec_one (n : Nat) (h : n < 10) : Lib.decDigits n = [UInt8.ofNat (48 + n)] := by rw [Lib.decDigits, dif_pos h]
theorem dec_len (n : Nat) : ∀ k, n < 10 ^ k → 1 ≤ k → (Lib.decDigits n).length ≤ k := by
  induction n using Nat.strongRecOn with
  | _ n ih =>
    intro k hk h1
    by_cases h : n < 10
    · rw [dec_one n h]; simpa using h1
    · rw [dec_step n h, List.length_append]
      obtain ⟨j, rfl⟩ : ∃ j, k = j + 1 := ⟨k - 1, by omega⟩
      rw [Nat.pow_succ] at hk
      have hj : 1 ≤ j := by
        rcases Nat.eq_zero_or_pos j with h0 | h0
        · subst h0; simp at hk; omega
        · exact h0
      have := ih (n / 10) (by omega) j (by omega) hj
      simp; omega
theorem num_ref (n : Nat) : ∀ w : World, n ≤ 9223372036854775807 →
    Calls Tryd.prog 43 #[I n] w fun e w' => e = .returned (S (Lib.decDigits n)) ∧ Kept [] w w' := by
  induction n using Nat.strongRecOn with
  | _ n ih =>
    intro w hn
    have hn' : (n : Int) ≤ 9223372036854775807 := by omega
    by_cases h : n < 10
    · have h' : (n : Int) < 10 := by omega
      obtain ⟨c, hc⟩ : ∃ c, UInt8.ofNat (48 + n) = c := ⟨_, rfl⟩
      have hb : (48 : Int) + n = (c.toNat : Int) := by rw [← hc, UInt8.toNat_ofNat']; omega
      have hcv := conv1 w c
      have HD := Lib.hid (dec_one n h)
      rw [hc] at HD
      clear ih
      go_enter Tryd.func43, Tryd.ntmps43
      go_wp2_with (fail)
      go_ret
      exact ⟨by rw [HD.out] <;> rfl, (Kept.refl _ _).alloc _⟩
    · have h' : ¬ (n : Int) < 10 := by omega
      obtain ⟨c, hc⟩ : ∃ c, UInt8.ofNat (48 + n % 10) = c := ⟨_, rfl⟩
      have hb := digit_emod n
      rw [hc] at hb
      have hcv : ∀ W : World, _ := fun W => conv1 W c
      have hcd := conv1_at (b := w.heap.size) (c := c) (Kept.refl [] (w.alloc (.cells #[.int .u8 (c.toNat : Int)] 5)).drew) (heap_new w _)
      have HD := Lib.hid (dec_step n h)
      rw [hc] at HD
      obtain ⟨m, hm⟩ : ∃ m : Int, (n : Int) / 10 = m := ⟨_, rfl⟩
      have hmn : m = ((n / 10 : Nat) : Int) := by omega
      have HI : Hid (∀ w : World, Calls Tryd.prog 43 #[I m] w fun e w' => e = .returned (S (Lib.decDigits (n / 10))) ∧ Kept [] w w') := Lib.hid fun w => by rw [hmn]; exact ih (n / 10) (by omega) w (by omega)
      have hw1 : IntKind.i64.wrap m = m := IntWalk.i64_in _ (by omega)
      have hw2 : IntKind.i64.wrap ((48 : Int) + (n : Int).tmod 10) = (c.toNat : Int) := by
        rw [Int.tmod_eq_emod_of_nonneg (by omega), hb]
        have := c.toNat_lt
        exact IntWalk.i64_in _ (by omega)
      have hw3 : IntKind.u8.wrap (c.toNat : Int) = (c.toNat : Int) := by
        have := c.toNat_lt
        exact IntWalk.u8_in _ (by omega)
      clear hmn hb
      have hlen := dec_len (n / 10) 19 (by omega) (by omega)
      have hlen' : (Lib.decDigits (n / 10)).length + 1 ≤ 9223372036854775807 := by omega
      clear ih hc hlen
      obtain ⟨q, hq2⟩ : ∃ q, Lib.decDigits (n / 10) = q := ⟨_, rfl⟩
      rw [hq2] at HI HD hlen'
      clear hq2
      go_enter Tryd.func43, Tryd.ntmps43
      go_wp2_with (fail)
      go_region_with ((go_at_call 43; (with_reducible refine (HI.out _).mono ?_); rintro r w5 ⟨rfl, k5⟩; have H5 := Lib.hid k5; (first | have hc5 := conv1_at (b := w.heap.size) (c := c) k5 (heap_new w _) | skip); clear k5))
      all_goals
        go_wp2
        go_ret
        exact ⟨by rw [HD.out] <;> rfl, by first | exact ((Kept.refl [] w).drew.trans' H5.out).alloc _ | exact (((Kept.refl [] w).alloc _).drew).trans' H5.out⟩
end Go.Proofs.YtgdioalhlmnhhaaDoor
