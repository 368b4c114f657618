/- Walks and lemmas on the program of this seat, used by its statements; each theorem bears its own conditions. -/
import Derived.Test.YtgdioalhlmnhhaaDoorHF
import Derived.Handy
namespace Go.Proofs.YtgdioalhlmnhhaaDoor
open Go.RowKit
set_option linter.unusedVariables false
set_option linter.unusedSimpArgs false
set_option maxHeartbeats 8000000
set_option maxRecDepth 100000
/-! ### The status -/
theorem all3 (p : UInt8 → Bool) (l : List UInt8) (h : 12 ≤ l.length) : ((l.take 12).drop 9).all p = (p (byteAt l 9) && p (byteAt l 10) && p (byteAt l 11)) := by
  have e : (l.take 12).drop 9 = [byteAt l 9, byteAt l 10, byteAt l 11] := by
    rw [List.drop_take, drop_byte l 9 (by omega), drop_byte l 10 (by omega), drop_byte l 11 (by omega)]; rfl
  rw [e]; simp [Bool.and_assoc]
theorem digs3 (l : List UInt8) (h : 12 ≤ l.length) : digsN ((l.take 12).drop 9) = statN l := by
  have e : (l.take 12).drop 9 = [byteAt l 9, byteAt l 10, byteAt l 11] := by
    rw [List.drop_take, drop_byte l 9 (by omega), drop_byte l 10 (by omega), drop_byte l 11 (by omega)]; rfl
  rw [e]; unfold digsN statN; simp [List.foldl]; omega
theorem one7 (l : List UInt8) (h : 13 ≤ l.length) : numZ ((l.take 8).drop 7) = if digC (byteAt l 7) then (((byteAt l 7).toNat - 48 : Nat) : Int) else -1 := by
  have e : (l.take 8).drop 7 = [byteAt l 7] := by
    rw [List.drop_take, drop_byte l 7 (by omega)]; rfl
  rw [e]; unfold numZ digsN; simp
theorem num9 (l : List UInt8) (h : 13 ≤ l.length) : numZ ((l.take 12).drop 9) = if digC (byteAt l 9) && digC (byteAt l 10) && digC (byteAt l 11) then (statN l : Int) else -1 := by
  unfold numZ; rw [all3 _ _ (by omega), digs3 _ (by omega)]
/-- the parts of a first line -/
structure StatP (l : List UInt8) (b1 b2 b3 b4 b5 b6 : Bool) : Prop where
  len : decide (13 ≤ l.length) = true
  e1 : (l.take 7 == httpL) = b1
  e2 : (byteAt l 8 == 32) = b2
  e3 : (byteAt l 12 == 32) = b3
  e4 : digC (byteAt l 7) = b4
  e5 : (digC (byteAt l 9) && digC (byteAt l 10) && digC (byteAt l 11)) = b5
  e6 : textB (l.drop 13) = b6
theorem statF_parts {l : List UInt8} {b1 b2 b3 b4 b5 b6 : Bool} (h : StatP l b1 b2 b3 b4 b5 b6) : statF l = if b1 && b2 && b3 && b4 && b5 && b6 then (if 100 ≤ statN l ∧ statN l ≤ 599 then statN l else 0) else 0 := by
  obtain ⟨h0, rfl, rfl, rfl, rfl, rfl, rfl⟩ := h
  unfold statF
  rw [h0]
  congr 1
  apply propext
  simp only [Bool.and_eq_true, Bool.true_and]
  constructor <;> (intro h; simp_all)
theorem byte_eqI (c : UInt8) (n : Nat) (hn : n < 256) (b : Bool) (h : (c == UInt8.ofNat n) = b) : ((c.toNat : Int) == (n : Int)) = b := by
  rw [← h, Bool.eq_iff_iff]
  simp only [beq_iff_eq]
  constructor
  · intro e; apply UInt8.toNat.inj; rw [UInt8.toNat_ofNat']; omega
  · intro e; rw [e, UInt8.toNat_ofNat']; omega
theorem byte_eq32 (c : UInt8) (b : Bool) (h : (c == 32) = b) : ((c.toNat : Int) == 32) = b := byte_eqI c 32 (by omega) b h
theorem hasPrefix_http (l : List UInt8) : Lib.hasPrefix l [72, 84, 84, 80, 47, 49, 46] = (l.take 7 == httpL) := by
  unfold Lib.hasPrefix
  rw [Bool.eq_iff_iff, List.isPrefixOf_iff_prefix, beq_iff_eq]
  constructor
  · rintro ⟨t, rfl⟩; rfl
  · intro h; exact ⟨l.drop 7, by rw [← show l.take 7 = [72, 84, 84, 80, 47, 49, 46] from h, List.take_append_drop]⟩
theorem digC_or (l : List UInt8) : (digC (byteAt l 9) && digC (byteAt l 10) && digC (byteAt l 11)) = true ∨ (digC (byteAt l 9) && digC (byteAt l 10) && digC (byteAt l 11)) = false := by
  cases (digC (byteAt l 9) && digC (byteAt l 10) && digC (byteAt l 11)) <;> simp
theorem statN_bd (l : List UInt8) (h : (digC (byteAt l 9) && digC (byteAt l 10) && digC (byteAt l 11)) = true) : statN l ≤ 999 := by
  simp only [Bool.and_eq_true] at h
  have h1 := digC_yes h.1.1
  have h2 := digC_yes h.1.2
  have h3 := digC_yes h.2
  unfold statN; omega
def StPost (r : Nat) (w : World) (e : Ending) (w' : World) : Prop :=
  (r ≠ 0 ∧ e = .returned (I r) ∧ w = w') ∨ (r = 0 ∧ e = .panicked [{ v := Stop 170, recovered := false }] ∧ w = w')
theorem status_any (l : List UInt8) (w : World) (hl : l.length ≤ 9223372036854775807) (r : Nat) (hr : statF l = r) :
    Calls Tryd.prog 80 #[S l] w (StPost r w) := by
  have hl' : (l.length : Int) ≤ 9223372036854775807 := by omega
  have HR := Lib.hid hr
  clear hr
  have HM0 := Lib.hid (must_no 170)
  have HM1 := Lib.hid (must_yes 170)
  have hpx : Hid (∀ b, (l.take 7 == httpL) = b → Calls Tryd.prog 99 #[S l, S [72, 84, 84, 80, 47, 49, 46]] w fun e w' => e = .returned (.bool b) ∧ w = w') := Lib.hid fun b hb => by
    have := Tryd.strings_HasPrefix ⟨l.toArray⟩ ⟨#[72, 84, 84, 80, 47, 49, 46]⟩ w
    refine this.mono fun e w' h => ⟨?_, h.2.symm⟩
    rw [h.1, ← hb, ← hasPrefix_http]
  by_cases h13 : 13 ≤ l.length
  case neg =>
    have HF : Hid (r = 0) := Lib.hid (by rw [← HR.out]; unfold statF; rw [show decide (13 ≤ l.length) = false from decide_eq_false h13]; rfl)
    have h13' : ¬ (l.length : Int) ≥ 13 := by omega
    go_enter Tryd.func80, Tryd.ntmps80
    go_wp2_with (fail)
    refine (HM0.out w).mono ?_
    rintro e w1 ⟨rfl, rfl⟩
    go_wp2_with (fail)
    exact ⟨rfl, .inr ⟨HF.out, rfl, rfl⟩⟩
  have h13' : (l.length : Int) ≥ 13 := by omega
  obtain ⟨b1, hb1⟩ : ∃ b, (l.take 7 == httpL) = b := ⟨_, rfl⟩
  obtain ⟨b2, hb2⟩ : ∃ b, (byteAt l 8 == 32) = b := ⟨_, rfl⟩
  obtain ⟨b3, hb3⟩ : ∃ b, (byteAt l 12 == 32) = b := ⟨_, rfl⟩
  obtain ⟨b4, hb4⟩ : ∃ b, digC (byteAt l 7) = b := ⟨_, rfl⟩
  obtain ⟨b5, hb5⟩ : ∃ b, (digC (byteAt l 9) && digC (byteAt l 10) && digC (byteAt l 11)) = b := ⟨_, rfl⟩
  obtain ⟨b6, hb6⟩ : ∃ b, textB (l.drop 13) = b := ⟨_, rfl⟩
  have HP := Lib.hid (statF_parts ⟨decide_eq_true h13, hb1, hb2, hb3, hb4, hb5, hb6⟩)
  have H7 := Lib.hid (one7 l h13)
  have H9 := Lib.hid (num9 l h13)
  have HN := Lib.hid (statN_bd l)
  have HX := hpx.out b1 hb1
  have HB2 := byte_eq32 _ b2 hb2
  have HB3 := byte_eq32 _ b3 hb3
  rw [hb4] at H7
  rw [hb5] at H9 HN
  have HB6 := Lib.hid hb6
  have HXC := Lib.hid HX
  clear hb1 hb2 hb3 hb4 hb5 hb6 HX hpx
  cases b1 with
  | false =>
    have HF : Hid (r = 0) := Lib.hid (by rw [← HR.out, HP.out]; rfl)
    go_enter Tryd.func80, Tryd.ntmps80
    go_wp2_with ((go_at_call 99; (with_reducible refine HXC.out.mono ?_); rintro r w5 ⟨rfl, rfl⟩))
    refine (HM0.out w).mono ?_
    rintro e w1 ⟨rfl, rfl⟩
    go_wp2_with (fail)
    exact ⟨rfl, .inr ⟨HF.out, rfl, rfl⟩⟩
  | true =>
  cases b2 with
  | false =>
    have HF : Hid (r = 0) := Lib.hid (by rw [← HR.out, HP.out]; rfl)
    go_enter Tryd.func80, Tryd.ntmps80
    go_wp2_with ((go_at_call 99; (with_reducible refine HXC.out.mono ?_); rintro r w5 ⟨rfl, rfl⟩))
    refine (HM0.out w).mono ?_
    rintro e w1 ⟨rfl, rfl⟩
    go_wp2_with (fail)
    exact ⟨rfl, .inr ⟨HF.out, rfl, rfl⟩⟩
  | true =>
  cases b3 with
  | false =>
    have HF : Hid (r = 0) := Lib.hid (by rw [← HR.out, HP.out]; rfl)
    go_enter Tryd.func80, Tryd.ntmps80
    go_wp2_with ((go_at_call 99; (with_reducible refine HXC.out.mono ?_); rintro r w5 ⟨rfl, rfl⟩))
    refine (HM0.out w).mono ?_
    rintro e w1 ⟨rfl, rfl⟩
    go_wp2_with (fail)
    exact ⟨rfl, .inr ⟨HF.out, rfl, rfl⟩⟩
  | true =>
  cases b4 with
  | false =>
    have HF : Hid (r = 0) := Lib.hid (by rw [← HR.out, HP.out]; rfl)
    have HC : Hid (Calls Tryd.prog 107 #[S ((l.take 8).drop 7)] w fun e w' => e = .returned (I (-1)) ∧ w = w') := Lib.hid (number_any _ w (by simp; omega) _ (by rw [H7.out]; rfl))
    go_enter Tryd.func80, Tryd.ntmps80
    go_wp2_with (first
      | (go_at_call 99; (with_reducible refine HXC.out.mono ?_); rintro r w5 ⟨rfl, rfl⟩)
      | (go_at_call 107; (with_reducible refine HC.out.mono ?_); rintro r w5 ⟨rfl, rfl⟩))
    refine (HM0.out w).mono ?_
    rintro e w1 ⟨rfl, rfl⟩
    go_wp2_with (fail)
    exact ⟨rfl, .inr ⟨HF.out, rfl, rfl⟩⟩
  | true =>
  obtain ⟨x7, hx7⟩ : ∃ x : Nat, (byteAt l 7).toNat - 48 = x := ⟨_, rfl⟩
  have HC : Hid (Calls Tryd.prog 107 #[S ((l.take 8).drop 7)] w fun e w' => e = .returned (I (x7 : Int)) ∧ w = w') := Lib.hid (number_any _ w (by simp; omega) _ (by rw [H7.out, ← hx7]; rfl))
  clear hx7
  cases b5 with
  | false =>
    have HF : Hid (r = 0) := Lib.hid (by rw [← HR.out, HP.out]; rfl)
    have HC9 : Hid (Calls Tryd.prog 107 #[S ((l.take 12).drop 9)] w fun e w' => e = .returned (I (-1)) ∧ w = w') := Lib.hid (number_any _ w (by simp; omega) _ (by rw [H9.out]; rfl))
    go_enter Tryd.func80, Tryd.ntmps80
    go_wp2_with (first
      | (go_at_call 99; (with_reducible refine HXC.out.mono ?_); rintro r w5 ⟨rfl, rfl⟩)
      | (go_at_call 107; (with_reducible refine HC.out.mono ?_); rintro r w5 ⟨rfl, rfl⟩)
      | (go_at_call 78; (with_reducible refine (HM1.out w).mono ?_); rintro r w5 ⟨rfl, rfl⟩)
      | (go_at_call 107; (with_reducible refine HC9.out.mono ?_); rintro r w5 ⟨rfl, rfl⟩))
    refine (HM0.out w).mono ?_
    rintro e w1 ⟨rfl, rfl⟩
    go_wp2_with (fail)
    exact ⟨rfl, .inr ⟨HF.out, rfl, rfl⟩⟩
  | true =>
  obtain ⟨x, hx⟩ : ∃ x : Nat, statN l = x := ⟨_, rfl⟩
  have hxb : x ≤ 999 := by rw [← hx]; exact HN.out rfl
  have HC9 : Hid (Calls Tryd.prog 107 #[S ((l.take 12).drop 9)] w fun e w' => e = .returned (I (x : Int)) ∧ w = w') := Lib.hid (number_any _ w (by simp; omega) _ (by rw [H9.out, hx]; rfl))
  rw [hx] at HP
  clear hx
  by_cases h1 : 100 ≤ x
  case neg =>
    have HF : Hid (r = 0) := Lib.hid (by rw [← HR.out, HP.out, if_neg (by omega : ¬ (100 ≤ x ∧ x ≤ 599))]; simp)
    have h1' : ¬ (x : Int) ≥ 100 := by omega
    go_enter Tryd.func80, Tryd.ntmps80
    go_wp2_with (first
      | (go_at_call 99; (with_reducible refine HXC.out.mono ?_); rintro r w5 ⟨rfl, rfl⟩)
      | (go_at_call 107; (with_reducible refine HC.out.mono ?_); rintro r w5 ⟨rfl, rfl⟩)
      | (go_at_call 78; (with_reducible refine (HM1.out w).mono ?_); rintro r w5 ⟨rfl, rfl⟩)
      | (go_at_call 107; (with_reducible refine HC9.out.mono ?_); rintro r w5 ⟨rfl, rfl⟩))
    refine (HM0.out w).mono ?_
    rintro e w1 ⟨rfl, rfl⟩
    go_wp2_with (fail)
    exact ⟨rfl, .inr ⟨HF.out, rfl, rfl⟩⟩
  have h1' : (x : Int) ≥ 100 := by omega
  by_cases h2 : x ≤ 599
  case neg =>
    have HF : Hid (r = 0) := Lib.hid (by rw [← HR.out, HP.out, if_neg (by omega : ¬ (100 ≤ x ∧ x ≤ 599))]; simp)
    have h2' : ¬ (x : Int) ≤ 599 := by omega
    go_enter Tryd.func80, Tryd.ntmps80
    go_wp2_with (first
      | (go_at_call 99; (with_reducible refine HXC.out.mono ?_); rintro r w5 ⟨rfl, rfl⟩)
      | (go_at_call 107; (with_reducible refine HC.out.mono ?_); rintro r w5 ⟨rfl, rfl⟩)
      | (go_at_call 78; (with_reducible refine (HM1.out w).mono ?_); rintro r w5 ⟨rfl, rfl⟩)
      | (go_at_call 107; (with_reducible refine HC9.out.mono ?_); rintro r w5 ⟨rfl, rfl⟩))
    refine (HM0.out w).mono ?_
    rintro e w1 ⟨rfl, rfl⟩
    go_wp2_with (fail)
    exact ⟨rfl, .inr ⟨HF.out, rfl, rfl⟩⟩
  have h2' : (x : Int) ≤ 599 := by omega
  have HT : Hid (Calls Tryd.prog 82 #[S (l.drop 13)] w fun e w' => e = .returned (.bool b6) ∧ w = w') := Lib.hid (by rw [← HB6.out]; exact text_any _ w (by simp; omega))
  cases b6 with
  | false =>
    have HF : Hid (r = 0) := Lib.hid (by rw [← HR.out, HP.out]; rfl)
    go_enter Tryd.func80, Tryd.ntmps80
    go_wp2_with (first
      | (go_at_call 99; (with_reducible refine HXC.out.mono ?_); rintro r w5 ⟨rfl, rfl⟩)
      | (go_at_call 107; (with_reducible refine HC.out.mono ?_); rintro r w5 ⟨rfl, rfl⟩)
      | (go_at_call 78; (with_reducible refine (HM1.out w).mono ?_); rintro r w5 ⟨rfl, rfl⟩)
      | (go_at_call 82; (with_reducible refine HT.out.mono ?_); rintro r w5 ⟨rfl, rfl⟩)
      | (go_at_call 107; (with_reducible refine HC9.out.mono ?_); rintro r w5 ⟨rfl, rfl⟩))
    refine (HM0.out w).mono ?_
    rintro e w1 ⟨rfl, rfl⟩
    go_wp2_with (fail)
    exact ⟨rfl, .inr ⟨HF.out, rfl, rfl⟩⟩
  | true =>
    have HF : Hid (r = x) := Lib.hid (by rw [← HR.out, HP.out, if_pos (⟨h1, h2⟩ : 100 ≤ x ∧ x ≤ 599)]; rfl)
    go_enter Tryd.func80, Tryd.ntmps80
    go_wp2_with (first
      | (go_at_call 99; (with_reducible refine HXC.out.mono ?_); rintro r w5 ⟨rfl, rfl⟩)
      | (go_at_call 107; (with_reducible refine HC.out.mono ?_); rintro r w5 ⟨rfl, rfl⟩)
      | (go_at_call 78; (with_reducible refine (HM1.out w).mono ?_); rintro r w5 ⟨rfl, rfl⟩)
      | (go_at_call 82; (with_reducible refine HT.out.mono ?_); rintro r w5 ⟨rfl, rfl⟩)
      | (go_at_call 107; (with_reducible refine HC9.out.mono ?_); rintro r w5 ⟨rfl, rfl⟩))
    go_ret
    exact .inl ⟨by rw [HF.out]; omega, by rw [HF.out] <;> rfl, rfl⟩
end Go.Proofs.YtgdioalhlmnhhaaDoor
