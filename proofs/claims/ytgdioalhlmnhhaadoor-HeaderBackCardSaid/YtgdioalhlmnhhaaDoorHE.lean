/- Walks and lemmas on the program of this seat, used by its statements; each theorem bears its own conditions. -/
import Derived.Test.YtgdioalhlmnhhaaDoorHD
import Derived.Handy
import Derived.Deep.CutRange
import Derived.Lib.BufferWrite
import Derived.Shelf.Strings.SlTrimAscii
namespace Go.Proofs.YtgdioalhlmnhhaaDoor
open Go.RowKit
set_option linter.unusedVariables false
set_option linter.unusedSimpArgs false
set_option maxHeartbeats 8000000
set_option maxRecDepth 100000
/-! ### Trim, End; the library's parts -/
abbrev blankC (c : UInt8) : Bool := [(32 : UInt8), 9].contains c
def ltrim (s : List UInt8) : List UInt8 := s.dropWhile blankC
def rtrim (s : List UInt8) : List UInt8 := (s.reverse.dropWhile blankC).reverse
theorem trimLR (s : List UInt8) : rtrim (ltrim s) = trimF s := by
  show rtrim (ltrim s) = ltrim (rtrim s)
  induction s with
  | nil => rfl
  | cons c t ih =>
    unfold ltrim rtrim at ih ⊢
    rw [List.reverse_cons, List.dropWhile_append]
    cases hc : blankC c with
    | true =>
      rw [List.dropWhile_cons_of_pos hc, ih]
      by_cases he : (t.reverse.dropWhile blankC).isEmpty = true
      · have d1 : [c].dropWhile blankC = [] := by rw [List.dropWhile_cons_of_pos hc]; rfl
        rw [if_pos he, List.isEmpty_iff.1 he, d1]
      · rw [if_neg he, List.reverse_append]
        simp only [List.reverse_cons, List.reverse_nil, List.nil_append, List.singleton_append]
        rw [List.dropWhile_cons_of_pos hc]
    | false =>
      have hf : ¬ blankC c = true := by rw [hc]; simp
      rw [List.dropWhile_cons_of_neg hf, List.reverse_cons, List.dropWhile_append]
      by_cases he : (t.reverse.dropWhile blankC).isEmpty = true
      · have d1 : [c].dropWhile blankC = [c] := List.dropWhile_cons_of_neg hf
        rw [if_pos he, d1]
        exact d1.symm ▸ rfl
      · rw [if_neg he, List.reverse_append]
        simp only [List.reverse_cons, List.reverse_nil, List.nil_append, List.singleton_append]
        rw [List.dropWhile_cons_of_neg hf]
theorem rtrim_step (s : List UInt8) (h : 0 < s.length) : rtrim s = if blankC (byteAt s (s.length - 1)) then rtrim (s.take (s.length - 1)) else s := by
  have hs : s = s.take (s.length - 1) ++ [byteAt s (s.length - 1)] := by
    have := take_byteAt s (s.length - 1) (by omega)
    rw [show s.length - 1 + 1 = s.length by omega, List.take_length] at this
    exact this
  generalize byteAt s (s.length - 1) = c at *
  generalize s.take (s.length - 1) = t at *
  subst hs
  unfold rtrim
  rw [List.reverse_append]
  simp only [List.reverse_cons, List.reverse_nil, List.nil_append, List.singleton_append]
  rw [List.dropWhile_cons]
  split
  · rfl
  · simp
theorem ltrim_step (s : List UInt8) (h : 0 < s.length) : ltrim s = if blankC (byteAt s 0) then ltrim (s.drop 1) else s := by
  cases s with
  | nil => simp at h
  | cons c t => exact List.dropWhile_cons
theorem blank_ways (c : UInt8) : (blankC c = true ∧ ((c.toNat : Int) == 9) = true) ∨ (blankC c = true ∧ ((c.toNat : Int) == 9) = false ∧ ((c.toNat : Int) == 32) = true) ∨ (blankC c = false ∧ ((c.toNat : Int) == 9) = false ∧ ((c.toNat : Int) == 32) = false) := by
  have hb : blankC c = ((c == 32) || (c == 9)) := contains_blank c
  rw [hb]
  by_cases h9 : c = 9
  · subst h9; left; decide
  · have e9 : ((c.toNat : Int) == 9) = false := by rw [beq_eq_false_iff_ne]; intro e; exact h9 (UInt8.toNat.inj (by show c.toNat = 9; omega))
    have f9 : (c == 9) = false := by simpa using h9
    by_cases h32 : c = 32
    · subst h32; right; left; decide
    · have e32 : ((c.toNat : Int) == 32) = false := by rw [beq_eq_false_iff_ne]; intro e; exact h32 (UInt8.toNat.inj (by show c.toNat = 32; omega))
      have f32 : (c == 32) = false := by simpa using h32
      right; right
      exact ⟨by rw [f9, f32]; rfl, e9, e32⟩
theorem rtrim_any (s : List UInt8) (w : World) (hs : s.length ≤ 9223372036854775807) (r : List UInt8) (hr : trimF s = r) :
    Calls Tryd.prog 44 #[S s] w fun e w' => e = .returned (S r) ∧ w = w' := by
  have HR := Lib.hid hr
  clear hr
  go_enter Tryd.func44, Tryd.ntmps44
  go_wp2_with (fail)
  go_loop [0] (fun v => ∃ t : List UInt8, v = S t ∧ t.length ≤ s.length ∧ ltrim t = ltrim s) (fun v => match v with | .string b => b.size | _ => 0)
  case atStart => exact ⟨s, rfl, by omega, rfl⟩
  case round =>
    obtain ⟨t, rfl, htl, hlt⟩ := hrel
    have hs' : (t.length : Int) ≤ 9223372036854775807 := by omega
    have HL := Lib.hid hlt
    clear hlt
    by_cases h0 : 0 < t.length
    · have h0' : (t.length : Int) > 0 := by omega
      have HS := Lib.hid (ltrim_step t h0)
      obtain ⟨c, hc⟩ : ∃ c, byteAt t 0 = c := ⟨_, rfl⟩
      rw [hc] at HS
      rcases blank_ways c with ⟨hb, h9⟩ | ⟨hb, h9, h32⟩ | ⟨hb, h9, h32⟩
      · have HB := Lib.hid hb
        clear hb
        go_wp2_with (fail)
        go_round
        case rel => exact ⟨t.drop 1, by simp, by simp; omega, by rw [← HL.out, HS.out, if_pos HB.out]⟩
        case measure => simp [ByteArray.size]; omega
      · have HB := Lib.hid hb
        clear hb
        go_wp2_with (fail)
        go_round
        case rel => exact ⟨t.drop 1, by simp, by simp; omega, by rw [← HL.out, HS.out, if_pos HB.out]⟩
        case measure => simp [ByteArray.size]; omega
      · have HT : Hid (ltrim s = t) := Lib.hid (by rw [← HL.out, HS.out, hb]; simp)
        clear hb
        go_wp2_with (fail)
        go_loop [0] (fun v => ∃ u : List UInt8, v = S u ∧ u.length ≤ t.length ∧ rtrim u = rtrim t) (fun v => match v with | .string b => b.size | _ => 0)
        case atStart => exact ⟨t, rfl, by omega, rfl⟩
        case round =>
          obtain ⟨u, rfl, hul, hru⟩ := hrel
          have hus : (u.length : Int) ≤ 9223372036854775807 := by omega
          have HU := Lib.hid hru
          clear hru
          clear hc h9 h32 hs'
          by_cases hu0 : 0 < u.length
          · have hu0' : (u.length : Int) > 0 := by omega
            have hu1 : (0 : Int) ≤ (u.length : Int) - 1 := by omega
            have hu2 : ((u.length : Int) - 1).toNat = u.length - 1 := by omega
            have HS2 := Lib.hid (rtrim_step u hu0)
            obtain ⟨d, hd⟩ : ∃ d, byteAt u (u.length - 1) = d := ⟨_, rfl⟩
            rw [hd] at HS2
            rcases blank_ways d with ⟨hb, h9⟩ | ⟨hb, h9, h32⟩ | ⟨hb, h9, h32⟩
            · have HB := Lib.hid hb
              clear hb
              go_wp2_with (fail)
              go_round
              case rel => exact ⟨u.take (u.length - 1), by simp, by simp; omega, by rw [← HU.out, HS2.out, if_pos HB.out]⟩
              case measure => simp [ByteArray.size]; omega
            · have HB := Lib.hid hb
              clear hb
              go_wp2_with (fail)
              go_round
              case rel => exact ⟨u.take (u.length - 1), by simp, by simp; omega, by rw [← HU.out, HS2.out, if_pos HB.out]⟩
              case measure => simp [ByteArray.size]; omega
            · have HF : Hid (u = r) := Lib.hid (by rw [← HR.out, ← trimLR, HT.out, ← HU.out, HS2.out, hb]; simp)
              clear hb
              go_wp2_with (fail)
              go_ret
              exact ⟨ret_S HF.out, rfl⟩
          · have hu0' : ¬ (u.length : Int) > 0 := by omega
            have hun : u = [] := List.eq_nil_of_length_eq_zero (by omega)
            have HF : Hid (([] : List UInt8) = r) := Lib.hid (by rw [← HR.out, ← trimLR, HT.out, ← HU.out, hun]; rfl)
            subst hun
            go_wp2_with (fail)
            go_ret
            exact ⟨ret_S HF.out, rfl⟩
    · have h0' : ¬ (t.length : Int) > 0 := by omega
      have htn : t = [] := List.eq_nil_of_length_eq_zero (by omega)
      have HF : Hid (([] : List UInt8) = r) := Lib.hid (by
        have hl := HL.out
        rw [htn] at hl
        rw [← HR.out, ← trimLR, ← hl]; rfl)
      subst htn
      clear htl
      go_wp2_with (fail)
      go_loop [0] (fun v => v = S []) (fun _ => 0)
      case atStart => rfl
      case round =>
        subst hrel
        go_wp2_with (fail)
        go_ret
        exact ⟨ret_S HF.out, rfl⟩
def endZ (s : List UInt8) (n : Nat) : Int := match crlf (s.drop n) with | some i => ((n + i : Nat) : Int) | none => -1
theorem rend_any (s : List UInt8) (n : Nat) (w : World) (hs : s.length ≤ 4611686018427387904) (hn : n ≤ s.length) (r : Int) (hr : endZ s n = r) :
    Calls Tryd.prog 71 #[S s, I n] w fun e w' => e = .returned (I r) ∧ w = w' := by
  have hs' : (s.length : Int) ≤ 4611686018427387904 := by omega
  have HR := Lib.hid hr
  clear hr
  go_enter Tryd.func71, Tryd.ntmps71
  go_wp2_with (fail)
  go_loop [5] (fun v => ∃ k : Nat, v = I k ∧ k ≤ s.length ∧ endZ s k = r) (fun v => s.length - (intOf v).toNat)
  case atStart => exact ⟨n, rfl, hn, HR.out⟩
  case round =>
    obtain ⟨k, rfl, hkl, hre⟩ := hrel
    have hk' : (k : Int) ≤ s.length := by omega
    have HE := Lib.hid hre
    clear hre
    by_cases hlt : k + 1 < s.length
    · have hlt' : (k : Int) + 1 < s.length := by omega
      have hst := crlf_step s k hlt
      by_cases h13 : byteAt s k = 13
      · have h13' : ((byteAt s k).toNat : Int) = 13 := by rw [h13]; rfl
        by_cases h10 : byteAt s (k + 1) = 10
        · have h10' : ((byteAt s (k + 1)).toNat : Int) = 10 := by rw [h10]; rfl
          have HF : Hid ((k : Int) = r) := Lib.hid (by rw [← HE.out]; unfold endZ; rw [hst, if_pos ⟨h13, h10⟩]; simp)
          have e1 : ((k : Int) + 1).toNat = k + 1 := by omega
          clear hst h13 h10
          go_wp2_with (fail)
          all_goals (go_ret; exact ⟨ret_I HF.out, rfl⟩)
        · have h10' : ((byteAt s (k + 1)).toNat : Int) ≠ 10 := fun e => h10 (UInt8.toNat.inj (by show (byteAt s (k + 1)).toNat = 10; omega))
          have h10b : (((byteAt s (k + 1)).toNat : Int) == 10) = false := by rw [beq_eq_false_iff_ne]; exact h10'
          have HF : Hid (endZ s (k + 1) = r) := Lib.hid (by
            rw [← HE.out]; unfold endZ; rw [hst, if_neg (fun h => h10 h.2)]
            cases crlf (s.drop (k + 1)) <;> simp; omega)
          have e1 : ((k : Int) + 1).toNat = k + 1 := by omega
          clear hst h13 h10
          go_wp2_with (fail)
          go_round
          case rel => exact ⟨k + 1, by go_num, by omega, HF.out⟩
          case measure => simp [intOf]; omega
      · have h13' : ((byteAt s k).toNat : Int) ≠ 13 := fun e => h13 (UInt8.toNat.inj (by show (byteAt s k).toNat = 13; omega))
        have h13b : (((byteAt s k).toNat : Int) == 13) = false := by rw [beq_eq_false_iff_ne]; exact h13'
        have HF : Hid (endZ s (k + 1) = r) := Lib.hid (by
          rw [← HE.out]; unfold endZ; rw [hst, if_neg (fun h => h13 h.1)]
          cases crlf (s.drop (k + 1)) <;> simp; omega)
        clear hst h13
        go_wp2_with (fail)
        go_round
        case rel => exact ⟨k + 1, by go_num, by omega, HF.out⟩
        case measure => simp [intOf]; omega
    · have hlt' : ¬ (k : Int) + 1 < s.length := by omega
      have HF : Hid (-1 = r) := Lib.hid (by rw [← HE.out]; unfold endZ; rw [crlf_short s k (by omega)])
      go_wp2_with (fail)
      go_ret
      exact ⟨ret_I HF.out, rfl⟩
theorem trim_any (s : List UInt8) (w : World) (hs : s.length ≤ 9223372036854775807) :
    Calls Tryd.prog 84 #[S s, S [32, 9]] w fun e w' => e = .returned (S (trimF s)) ∧ Kept [] w w' :=
  (Go.Proofs.Any.strings_Trim_laid Tryd.lays160 (by kernel_rfl) ⟨s.toArray⟩ ⟨#[32, 9]⟩ w (by simpa [ByteArray.size] using hs) (by simp [ByteArray.size]) (Go.Proofs.ascii_of_all (by decide))).mono fun e w' ⟨h1, h2⟩ => ⟨h1, Kept.of_below h2 (Nat.le_refl _)⟩
def ML (w : World) : Prop := ∃ m : Int, w.cell? ⟨0, 0, none⟩ = some (I m)
theorem ML.kept {w w' : World} (h : ML w) (k : Kept [] w w') : ML w' := by
  obtain ⟨m, hm⟩ := h
  refine ⟨m, ?_⟩
  have hb := World.block_lt_of_cell? w _ hm
  rw [k.cell hb (by simp), hm]
theorem index_any (s : List UInt8) (w : World) (hs : s.length < 4294967281) (hM : ML w) (r : Int) (hr : (match crlf s with | some i => (i : Int) | none => -1) = r) :
    Calls Tryd.prog 77 #[S s, S [13, 10]] w fun e w' => e = .returned (I r) ∧ w = w' := by
  obtain ⟨m, hm⟩ := hM
  refine (Tryd.strings_Index ⟨s.toArray⟩ ⟨#[13, 10]⟩ m w (by simpa [ByteArray.size] using hs) hm).mono fun e w' ⟨h1, h2⟩ => ⟨?_, h2.symm⟩
  rw [h1, ← hr]
  exact congrArg (fun x => Ending.returned (I x)) (index_crlf s)
theorem suffix_13 (s : List UInt8) : (Lib.trimSuffix s [13]).length = lenCR s := by
  unfold Lib.trimSuffix Lib.hasSuffix lenCR
  by_cases h0 : 0 < s.length
  · have hs : s = s.take (s.length - 1) ++ [byteAt s (s.length - 1)] := by
      have := take_byteAt s (s.length - 1) (by omega)
      rw [show s.length - 1 + 1 = s.length by omega, List.take_length] at this
      exact this
    have hsuf : ([13] : List UInt8).isSuffixOf s = true ↔ byteAt s (s.length - 1) = 13 := by
      rw [List.isSuffixOf_iff_suffix]
      constructor
      · rintro ⟨t, ht⟩
        rw [← byteAt_last, ← ht]; simp [byteAt]
      · intro h
        rw [h] at hs
        exact ⟨_, hs.symm⟩
    by_cases h13 : byteAt s (s.length - 1) = 13
    · rw [if_pos (hsuf.2 h13), if_pos ⟨h0, h13⟩]; simp
    · rw [if_neg (fun h => h13 (hsuf.1 h)), if_neg (fun h => h13 h.2)]
  · have : s = [] := List.eq_nil_of_length_eq_zero (by omega)
    subst this; rfl
theorem suffix_any (s : List UInt8) (w : World) (hs : s.length ≤ 9223372036854775807) (n : Nat) (hn : lenCR s = n) :
    Calls Tryd.prog 79 #[S s, S [13]] w fun e w' => ∃ t : List UInt8, e = .returned (S t) ∧ t.length = n ∧ w = w' :=
  (Tryd.strings_TrimSuffix ⟨s.toArray⟩ ⟨#[13]⟩ w (by simpa [ByteArray.size] using hs)).mono fun e w' ⟨h1, h2⟩ => ⟨Lib.trimSuffix s [13], h1, by rw [suffix_13, hn], h2.symm⟩
theorem index_colon (l : List UInt8) : Lib.index l [58] = if (nameL l).length = l.length then -1 else ((nameL l).length : Int) := by
  induction l with
  | nil => rfl
  | cons c l ih =>
    by_cases h : c = 58
    · subst h; simp [nameL, Lib.index, List.isPrefixOf]
    · have ht : nameL (c :: l) = c :: nameL l := by unfold nameL; rw [List.takeWhile_cons, if_pos (by simp [h])]
      have hp : ¬ [58].isPrefixOf (c :: l) = true := by simp [List.isPrefixOf, Ne.symm h]
      rw [ht]
      unfold Lib.index
      rw [if_neg hp, ih]
      simp only [List.length_cons]
      by_cases he : (nameL l).length = l.length
      · rw [if_pos he, if_pos (show (nameL l).length + 1 = l.length + 1 by omega)]; rfl
      · rw [if_neg he, if_neg (show ¬ (nameL l).length + 1 = l.length + 1 by omega)]
        have : (((nameL l).length : Int) == -1) = false := by rw [beq_eq_false_iff_ne]; omega
        rw [this]; rfl
theorem nameL_take (l : List UInt8) : l.take (nameL l).length = nameL l := by
  unfold nameL
  induction l with
  | nil => rfl
  | cons c l ih =>
    rw [List.takeWhile_cons]
    split
    · simp [ih]
    · rfl
theorem cut_any (l : List UInt8) (w : World) (hs : l.length < 4294967281) (hM : ML w) :
    Calls Tryd.prog 54 #[S l, S [58]] w fun e w' => (∃ a b : List UInt8, e = .returned (.tuple #[S a, S b, .bool (decide ((nameL l).length ≠ l.length))]) ∧ ((nameL l).length ≠ l.length → a = nameL l ∧ b = l.drop ((nameL l).length + 1))) ∧ Kept [] w w' := by
  obtain ⟨m, hm⟩ := hM
  refine (Tryd.strings_Cut ⟨l.toArray⟩ ⟨#[58]⟩ m w (by simpa [ByteArray.size] using hs) hm).mono fun e w' ⟨h1, n, h2⟩ => ⟨?_, by rw [h2]; exact (Kept.refl _ _).drewN n⟩
  refine ⟨(Lib.cut l [58]).1, (Lib.cut l [58]).2.1, ?_, fun hne => ?_⟩
  · rw [h1]
    have : (Lib.cut l [58]).2.2 = decide ((nameL l).length ≠ l.length) := by
      unfold Lib.cut
      rw [index_colon]
      by_cases he : (nameL l).length = l.length
      · rw [if_pos he, if_neg (by decide)]; simp [he]
      · rw [if_neg he, if_pos (by omega)]; simp [he]
    rw [← this]
  · unfold Lib.cut
    rw [index_colon, if_neg hne, if_pos (by omega)]
    exact ⟨nameL_take l, rfl⟩
end Go.Proofs.YtgdioalhlmnhhaaDoor
