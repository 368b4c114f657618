/- Walks and lemmas on the program of this seat, used by its statements; each theorem bears its own conditions. -/
import Derived.Test.YtgdncdhalnijcaaGreatDoorMHA
import Derived.Handy
import Derived.Deep.CutRange
import Derived.Lib.BufferWrite
import Derived.Shelf.Strings.SlTrimAscii
import Derived.Recover
import Derived.IntWalk
namespace Go.Proofs.YtgdncdhalnijcaaGreatDoor
open Go.RowKit
set_option linter.unusedVariables false
set_option linter.unusedSimpArgs false
section
set_option maxHeartbeats 8000000
set_option maxRecDepth 100000
/-! ### Trim, End; the library's parts -/
abbrev blankC (c : UInt8) : Bool := [(32 : UInt8), 9].contains c
def ltrim (s : List UInt8) : List UInt8 := s.dropWhile blankC
def rtrim (s : List UInt8) : List UInt8 := (s.reverse.dropWhile blankC).reverse
theorem trimLR (s : List UInt8) : rtrim (ltrim s) = trimF s := by
  show rtrim (ltrim s) = ltrim (rtrim s)
  induction s with
  | nil => rfl
  | cons c t ih =>
    unfold ltrim rtrim at ih ⊢
    rw [List.reverse_cons, List.dropWhile_append]
    cases hc : blankC c with
    | true =>
      rw [List.dropWhile_cons_of_pos hc, ih]
      by_cases he : (t.reverse.dropWhile blankC).isEmpty = true
      · have d1 : [c].dropWhile blankC = [] := by rw [List.dropWhile_cons_of_pos hc]; rfl
        rw [if_pos he, List.isEmpty_iff.1 he, d1]
      · rw [if_neg he, List.reverse_append]
        simp only [List.reverse_cons, List.reverse_nil, List.nil_append, List.singleton_append]
        rw [List.dropWhile_cons_of_pos hc]
    | false =>
      have hf : ¬ blankC c = true := by rw [hc]; simp
      rw [List.dropWhile_cons_of_neg hf, List.reverse_cons, List.dropWhile_append]
      by_cases he : (t.reverse.dropWhile blankC).isEmpty = true
      · have d1 : [c].dropWhile blankC = [c] := List.dropWhile_cons_of_neg hf
        rw [if_pos he, d1]
        exact d1.symm ▸ rfl
      · rw [if_neg he, List.reverse_append]
        simp only [List.reverse_cons, List.reverse_nil, List.nil_append, List.singleton_append]
        rw [List.dropWhile_cons_of_neg hf]
theorem rtrim_step (s : List UInt8) (h : 0 < s.length) : rtrim s = if blankC (byteAt s (s.length - 1)) then rtrim (s.take (s.length - 1)) else s := by
  have hs : s = s.take (s.length - 1) ++ [byteAt s (s.length - 1)] := by
    have := take_byteAt s (s.length - 1) (by omega)
    rw [show s.length - 1 + 1 = s.length by omega, List.take_length] at this
    exact this
  generalize byteAt s (s.length - 1) = c at *
  generalize s.take (s.length - 1) = t at *
  subst hs
  unfold rtrim
  rw [List.reverse_append]
  simp only [List.reverse_cons, List.reverse_nil, List.nil_append, List.singleton_append]
  rw [List.dropWhile_cons]
  split
  · rfl
  · simp
theorem ltrim_step (s : List UInt8) (h : 0 < s.length) : ltrim s = if blankC (byteAt s 0) then ltrim (s.drop 1) else s := by
  cases s with
  | nil => simp at h
  | cons c t => exact List.dropWhile_cons
theorem blank_ways (c : UInt8) : (blankC c = true ∧ ((c.toNat : Int) == 9) = true) ∨ (blankC c = true ∧ ((c.toNat : Int) == 9) = false ∧ ((c.toNat : Int) == 32) = true) ∨ (blankC c = false ∧ ((c.toNat : Int) == 9) = false ∧ ((c.toNat : Int) == 32) = false) := by
  have hb : blankC c = ((c == 32) || (c == 9)) := contains_blank c
  rw [hb]
  by_cases h9 : c = 9
  · subst h9; left; decide
  · have e9 : ((c.toNat : Int) == 9) = false := by rw [beq_eq_false_iff_ne]; intro e; exact h9 (UInt8.toNat.inj (by show c.toNat = 9; omega))
    have f9 : (c == 9) = false := by simpa using h9
    by_cases h32 : c = 32
    · subst h32; right; left; decide
    · have e32 : ((c.toNat : Int) == 32) = false := by rw [beq_eq_false_iff_ne]; intro e; exact h32 (UInt8.toNat.inj (by show c.toNat = 32; omega))
      have f32 : (c == 32) = false := by simpa using h32
      right; right
      exact ⟨by rw [f9, f32]; rfl, e9, e32⟩
theorem rtrim_any (s : List UInt8) (w : World) (hs : s.length ≤ 9223372036854775807) (r : List UInt8) (hr : trimF s = r) :
    Calls Tryz.prog 70 #[S s] w fun e w' => e = .returned (S r) ∧ w = w' := by
  have HR := Lib.hid hr
  clear hr
  go_enter Tryz.func70, Tryz.ntmps70
  go_wp2_with (fail)
  go_loop [0] (fun v => ∃ t : List UInt8, v = S t ∧ t.length ≤ s.length ∧ ltrim t = ltrim s) (fun v => match v with | .string b => b.size | _ => 0)
  case atStart => exact ⟨s, rfl, by omega, rfl⟩
  case round =>
    obtain ⟨t, rfl, htl, hlt⟩ := hrel
    have hs' : (t.length : Int) ≤ 9223372036854775807 := by omega
    have HL := Lib.hid hlt
    clear hlt
    by_cases h0 : 0 < t.length
    · have h0' : (t.length : Int) > 0 := by omega
      have HS := Lib.hid (ltrim_step t h0)
      obtain ⟨c, hc⟩ : ∃ c, byteAt t 0 = c := ⟨_, rfl⟩
      rw [hc] at HS
      rcases blank_ways c with ⟨hb, h9⟩ | ⟨hb, h9, h32⟩ | ⟨hb, h9, h32⟩
      · have HB := Lib.hid hb
        clear hb
        go_wp2_with (fail)
        go_round
        case rel => exact ⟨t.drop 1, by simp, by simp; omega, by rw [← HL.out, HS.out, if_pos HB.out]⟩
        case measure => simp [ByteArray.size]; omega
      · have HB := Lib.hid hb
        clear hb
        go_wp2_with (fail)
        go_round
        case rel => exact ⟨t.drop 1, by simp, by simp; omega, by rw [← HL.out, HS.out, if_pos HB.out]⟩
        case measure => simp [ByteArray.size]; omega
      · have HT : Hid (ltrim s = t) := Lib.hid (by rw [← HL.out, HS.out, hb]; simp)
        clear hb
        go_wp2_with (fail)
        go_loop [0] (fun v => ∃ u : List UInt8, v = S u ∧ u.length ≤ t.length ∧ rtrim u = rtrim t) (fun v => match v with | .string b => b.size | _ => 0)
        case atStart => exact ⟨t, rfl, by omega, rfl⟩
        case round =>
          obtain ⟨u, rfl, hul, hru⟩ := hrel
          have hus : (u.length : Int) ≤ 9223372036854775807 := by omega
          have HU := Lib.hid hru
          clear hru
          clear hc h9 h32 hs'
          by_cases hu0 : 0 < u.length
          · have hu0' : (u.length : Int) > 0 := by omega
            have hu1 : (0 : Int) ≤ (u.length : Int) - 1 := by omega
            have hu2 : ((u.length : Int) - 1).toNat = u.length - 1 := by omega
            have HS2 := Lib.hid (rtrim_step u hu0)
            obtain ⟨d, hd⟩ : ∃ d, byteAt u (u.length - 1) = d := ⟨_, rfl⟩
            rw [hd] at HS2
            rcases blank_ways d with ⟨hb, h9⟩ | ⟨hb, h9, h32⟩ | ⟨hb, h9, h32⟩
            · have HB := Lib.hid hb
              clear hb
              go_wp2_with (fail)
              go_round
              case rel => exact ⟨u.take (u.length - 1), by simp, by simp; omega, by rw [← HU.out, HS2.out, if_pos HB.out]⟩
              case measure => simp [ByteArray.size]; omega
            · have HB := Lib.hid hb
              clear hb
              go_wp2_with (fail)
              go_round
              case rel => exact ⟨u.take (u.length - 1), by simp, by simp; omega, by rw [← HU.out, HS2.out, if_pos HB.out]⟩
              case measure => simp [ByteArray.size]; omega
            · have HF : Hid (u = r) := Lib.hid (by rw [← HR.out, ← trimLR, HT.out, ← HU.out, HS2.out, hb]; simp)
              clear hb
              go_wp2_with (fail)
              go_ret
              exact ⟨ret_S HF.out, rfl⟩
          · have hu0' : ¬ (u.length : Int) > 0 := by omega
            have hun : u = [] := List.eq_nil_of_length_eq_zero (by omega)
            have HF : Hid (([] : List UInt8) = r) := Lib.hid (by rw [← HR.out, ← trimLR, HT.out, ← HU.out, hun]; rfl)
            subst hun
            go_wp2_with (fail)
            go_ret
            exact ⟨ret_S HF.out, rfl⟩
    · have h0' : ¬ (t.length : Int) > 0 := by omega
      have htn : t = [] := List.eq_nil_of_length_eq_zero (by omega)
      have HF : Hid (([] : List UInt8) = r) := Lib.hid (by
        have hl := HL.out
        rw [htn] at hl
        rw [← HR.out, ← trimLR, ← hl]; rfl)
      subst htn
      clear htl
      go_wp2_with (fail)
      go_loop [0] (fun v => v = S []) (fun _ => 0)
      case atStart => rfl
      case round =>
        subst hrel
        go_wp2_with (fail)
        go_ret
        exact ⟨ret_S HF.out, rfl⟩
def endZ (s : List UInt8) (n : Nat) : Int := match crlf (s.drop n) with | some i => ((n + i : Nat) : Int) | none => -1
theorem rend_any (s : List UInt8) (n : Nat) (w : World) (hs : s.length ≤ 4611686018427387904) (hn : n ≤ s.length) (r : Int) (hr : endZ s n = r) :
    Calls Tryz.prog 65 #[S s, I n] w fun e w' => e = .returned (I r) ∧ w = w' := by
  have hs' : (s.length : Int) ≤ 4611686018427387904 := by omega
  have HR := Lib.hid hr
  clear hr
  go_enter Tryz.func65, Tryz.ntmps65
  go_wp2_with (fail)
  go_loop [5] (fun v => ∃ k : Nat, v = I k ∧ k ≤ s.length ∧ endZ s k = r) (fun v => s.length - (intOf v).toNat)
  case atStart => exact ⟨n, rfl, hn, HR.out⟩
  case round =>
    obtain ⟨k, rfl, hkl, hre⟩ := hrel
    have hk' : (k : Int) ≤ s.length := by omega
    have HE := Lib.hid hre
    clear hre
    by_cases hlt : k + 1 < s.length
    · have hlt' : (k : Int) + 1 < s.length := by omega
      have hst := crlf_step s k hlt
      by_cases h13 : byteAt s k = 13
      · have h13' : ((byteAt s k).toNat : Int) = 13 := by rw [h13]; rfl
        by_cases h10 : byteAt s (k + 1) = 10
        · have h10' : ((byteAt s (k + 1)).toNat : Int) = 10 := by rw [h10]; rfl
          have HF : Hid ((k : Int) = r) := Lib.hid (by rw [← HE.out]; unfold endZ; rw [hst, if_pos ⟨h13, h10⟩]; simp)
          have e1 : ((k : Int) + 1).toNat = k + 1 := by omega
          clear hst h13 h10
          go_wp2_with (fail)
          all_goals (go_ret; exact ⟨ret_I HF.out, rfl⟩)
        · have h10' : ((byteAt s (k + 1)).toNat : Int) ≠ 10 := fun e => h10 (UInt8.toNat.inj (by show (byteAt s (k + 1)).toNat = 10; omega))
          have h10b : (((byteAt s (k + 1)).toNat : Int) == 10) = false := by rw [beq_eq_false_iff_ne]; exact h10'
          have HF : Hid (endZ s (k + 1) = r) := Lib.hid (by
            rw [← HE.out]; unfold endZ; rw [hst, if_neg (fun h => h10 h.2)]
            cases crlf (s.drop (k + 1)) <;> simp; omega)
          have e1 : ((k : Int) + 1).toNat = k + 1 := by omega
          clear hst h13 h10
          go_wp2_with (fail)
          go_round
          case rel => exact ⟨k + 1, by go_num, by omega, HF.out⟩
          case measure => simp [intOf]; omega
      · have h13' : ((byteAt s k).toNat : Int) ≠ 13 := fun e => h13 (UInt8.toNat.inj (by show (byteAt s k).toNat = 13; omega))
        have h13b : (((byteAt s k).toNat : Int) == 13) = false := by rw [beq_eq_false_iff_ne]; exact h13'
        have HF : Hid (endZ s (k + 1) = r) := Lib.hid (by
          rw [← HE.out]; unfold endZ; rw [hst, if_neg (fun h => h13 h.1)]
          cases crlf (s.drop (k + 1)) <;> simp; omega)
        clear hst h13
        go_wp2_with (fail)
        go_round
        case rel => exact ⟨k + 1, by go_num, by omega, HF.out⟩
        case measure => simp [intOf]; omega
    · have hlt' : ¬ (k : Int) + 1 < s.length := by omega
      have HF : Hid (-1 = r) := Lib.hid (by rw [← HE.out]; unfold endZ; rw [crlf_short s k (by omega)])
      go_wp2_with (fail)
      go_ret
      exact ⟨ret_I HF.out, rfl⟩
theorem trim_any (s : List UInt8) (w : World) (hs : s.length ≤ 9223372036854775807) :
    Calls Tryz.prog 59 #[S s, S [32, 9]] w fun e w' => e = .returned (S (trimF s)) ∧ Kept [] w w' :=
  (Go.Proofs.Any.strings_Trim_laid Tryz.lays160 (by kernel_rfl) ⟨s.toArray⟩ ⟨#[32, 9]⟩ w (by simpa [ByteArray.size] using hs) (by simp [ByteArray.size]) (Go.Proofs.ascii_of_all (by decide))).mono fun e w' ⟨h1, h2⟩ => ⟨h1, Kept.of_below h2 (Nat.le_refl _)⟩
def ML (w : World) : Prop := ∃ m : Int, w.cell? ⟨0, 0, none⟩ = some (I m)
theorem ML.kept {w w' : World} (h : ML w) (k : Kept [] w w') : ML w' := by
  obtain ⟨m, hm⟩ := h
  refine ⟨m, ?_⟩
  have hb := World.block_lt_of_cell? w _ hm
  rw [k.cell hb (by simp), hm]
theorem index_any (s : List UInt8) (w : World) (hs : s.length < 4294967281) (hM : ML w) (r : Int) (hr : (match crlf s with | some i => (i : Int) | none => -1) = r) :
    Calls Tryz.prog 51 #[S s, S [13, 10]] w fun e w' => e = .returned (I r) ∧ w = w' := by
  obtain ⟨m, hm⟩ := hM
  refine (Tryz.strings_Index ⟨s.toArray⟩ ⟨#[13, 10]⟩ m w (by simpa [ByteArray.size] using hs) hm).mono fun e w' ⟨h1, h2⟩ => ⟨?_, h2.symm⟩
  rw [h1, ← hr]
  exact congrArg (fun x => Ending.returned (I x)) (index_crlf s)
theorem suffix_13 (s : List UInt8) : (Lib.trimSuffix s [13]).length = lenCR s := by
  unfold Lib.trimSuffix Lib.hasSuffix lenCR
  by_cases h0 : 0 < s.length
  · have hs : s = s.take (s.length - 1) ++ [byteAt s (s.length - 1)] := by
      have := take_byteAt s (s.length - 1) (by omega)
      rw [show s.length - 1 + 1 = s.length by omega, List.take_length] at this
      exact this
    have hsuf : ([13] : List UInt8).isSuffixOf s = true ↔ byteAt s (s.length - 1) = 13 := by
      rw [List.isSuffixOf_iff_suffix]
      constructor
      · rintro ⟨t, ht⟩
        rw [← byteAt_last, ← ht]; simp [byteAt]
      · intro h
        rw [h] at hs
        exact ⟨_, hs.symm⟩
    by_cases h13 : byteAt s (s.length - 1) = 13
    · rw [if_pos (hsuf.2 h13), if_pos ⟨h0, h13⟩]; simp
    · rw [if_neg (fun h => h13 (hsuf.1 h)), if_neg (fun h => h13 h.2)]
  · have : s = [] := List.eq_nil_of_length_eq_zero (by omega)
    subst this; rfl
theorem suffix_any (s : List UInt8) (w : World) (hs : s.length ≤ 9223372036854775807) (n : Nat) (hn : lenCR s = n) :
    Calls Tryz.prog 53 #[S s, S [13]] w fun e w' => ∃ t : List UInt8, e = .returned (S t) ∧ t.length = n ∧ w = w' :=
  (Tryz.strings_TrimSuffix ⟨s.toArray⟩ ⟨#[13]⟩ w (by simpa [ByteArray.size] using hs)).mono fun e w' ⟨h1, h2⟩ => ⟨Lib.trimSuffix s [13], h1, by rw [suffix_13, hn], h2.symm⟩
theorem index_colon (l : List UInt8) : Lib.index l [58] = if (nameL l).length = l.length then -1 else ((nameL l).length : Int) := by
  induction l with
  | nil => rfl
  | cons c l ih =>
    by_cases h : c = 58
    · subst h; simp [nameL, Lib.index, List.isPrefixOf]
    · have ht : nameL (c :: l) = c :: nameL l := by unfold nameL; rw [List.takeWhile_cons, if_pos (by simp [h])]
      have hp : ¬ [58].isPrefixOf (c :: l) = true := by simp [List.isPrefixOf, Ne.symm h]
      rw [ht]
      unfold Lib.index
      rw [if_neg hp, ih]
      simp only [List.length_cons]
      by_cases he : (nameL l).length = l.length
      · rw [if_pos he, if_pos (show (nameL l).length + 1 = l.length + 1 by omega)]; rfl
      · rw [if_neg he, if_neg (show ¬ (nameL l).length + 1 = l.length + 1 by omega)]
        have : (((nameL l).length : Int) == -1) = false := by rw [beq_eq_false_iff_ne]; omega
        rw [this]; rfl
theorem nameL_take (l : List UInt8) : l.take (nameL l).length = nameL l := by
  unfold nameL
  induction l with
  | nil => rfl
  | cons c l ih =>
    rw [List.takeWhile_cons]
    split
    · simp [ih]
    · rfl
theorem cut_any (l : List UInt8) (w : World) (hs : l.length < 4294967281) (hM : ML w) :
    Calls Tryz.prog 55 #[S l, S [58]] w fun e w' => (∃ a b : List UInt8, e = .returned (.tuple #[S a, S b, .bool (decide ((nameL l).length ≠ l.length))]) ∧ ((nameL l).length ≠ l.length → a = nameL l ∧ b = l.drop ((nameL l).length + 1))) ∧ Kept [] w w' := by
  obtain ⟨m, hm⟩ := hM
  refine (Tryz.strings_Cut ⟨l.toArray⟩ ⟨#[58]⟩ m w (by simpa [ByteArray.size] using hs) hm).mono fun e w' ⟨h1, n, h2⟩ => ⟨?_, by rw [h2]; exact (Kept.refl _ _).drewN n⟩
  refine ⟨(Lib.cut l [58]).1, (Lib.cut l [58]).2.1, ?_, fun hne => ?_⟩
  · rw [h1]
    have : (Lib.cut l [58]).2.2 = decide ((nameL l).length ≠ l.length) := by
      unfold Lib.cut
      rw [index_colon]
      by_cases he : (nameL l).length = l.length
      · rw [if_pos he, if_neg (by decide)]; simp [he]
      · rw [if_neg he, if_pos (by omega)]; simp [he]
    rw [← this]
  · unfold Lib.cut
    rw [index_colon, if_neg hne, if_pos (by omega)]
    exact ⟨nameL_take l, rfl⟩
end
section
set_option maxHeartbeats 8000000
set_option maxRecDepth 100000
/-! ### must, caught: how a head is given up -/
abbrev Stop (e : Int) : Value := .iface 104 (.agg #[I e])
theorem ta_yes (e : Int) (w : World) : (Instr.typeAssert (Stop e) 20 104 true).run Tryz.prog w = .ok (.tuple #[.agg #[I e], .bool true]) w := by
  kernel_rfl
theorem ta_no (w : World) : (Instr.typeAssert .nilIface 20 104 true).run Tryz.prog w = .ok (.tuple #[.agg #[I 0], .bool false]) w := by
  kernel_rfl
theorem must_yes (e : Int) (w : World) :
    Calls Tryz.prog 52 #[.bool true, I e] w fun r w' => r = .returned (.tuple #[]) ∧ w = w' := by
  go_enter Tryz.func52, Tryz.ntmps52
  go_wp2_with (fail)
  go_end0
  exact ⟨rfl, rfl⟩
theorem must_no (e : Int) (w : World) :
    Calls Tryz.prog 52 #[.bool false, I e] w fun r w' => r = .panicked [{ v := Stop e, recovered := false }] ∧ w = w' := by
  go_enter Tryz.func52, Tryz.ntmps52
  go_wp2_with (fail)
  exact ⟨rfl, rfl, rfl⟩
theorem must_at (b : Bool) (e : Int) (w : World) :
    Calls Tryz.prog 52 #[.bool b, I e] w fun r w' => (b = true ∧ r = .returned (.tuple #[]) ∧ w = w') ∨ (b = false ∧ r = .panicked [{ v := Stop e, recovered := false }] ∧ w = w') := by
  cases b
  · exact (must_no e w).mono fun _ _ h => .inr ⟨rfl, h⟩
  · exact (must_yes e w).mono fun _ _ h => .inl ⟨rfl, h⟩
theorem caught_idle (b0 b1 b2 : Nat) (w : World) :
    CallsD Tryz.prog 50 #[Ptr b0, Ptr b1, Ptr b2] .returning w fun r u' w' => r = .returned (.tuple #[]) ∧ u' = .returning ∧ Kept [] w w' := by
  refine callsD_of_wpS Tryz.func50 rfl fun c₀ cs hu => ?_
  simp only [Tryz.ntmps50, List.size_toArray, List.length_cons, List.length_nil, Nat.reduceAdd, Nat.reduceSub, Array.replicate_succ, Array.replicate_zero, List.push_toArray, List.append_toArray, List.nil_append, List.cons_append]
  apply wpS_seq
  apply wpS_region
  have h := ta_no w
  simp [wpOpsS, go_sem, recoverD, hu, Exit.thenS, h]
  refine wpS_of_wp ?_
  go_wp2
  cases c₀
  simp_all [bodyPostS, results, Tryz.results50]
  exact (Kept.refl _ _).alloc _
abbrev Blk (w : World) (b : Nat) (cs : Array Value) (t : TypeId) : Prop := w.heap[b]? = some (.cells cs t (0, 0))
theorem Blk.set {w : World} {b : Nat} {cs : Array Value} {t : TypeId} (h : Blk w b cs t) (o : Nat) (v : Value) : Blk (w.setCell ⟨b, o, none⟩ v) b (cs.setIfInBounds o v) t := heap_setCell_at h o v
theorem Blk.other {w : World} {b : Nat} {cs : Array Value} {t : TypeId} (h : Blk w b cs t) (c o : Nat) (v : Value) (hn : c ≠ b) : Blk (w.setCell ⟨c, o, none⟩ v) b cs t := by
  show (w.setCell ⟨c, o, none⟩ v).heap[b]? = _
  rw [Below.heap_setCell _ _ _ _ (fun e => hn e.symm)]; exact h
theorem Blk.alloc {w : World} {b : Nat} {cs : Array Value} {t : TypeId} (h : Blk w b cs t) (o : Obj) : Blk (w.alloc o) b cs t := by
  show (w.alloc o).heap[b]? = _
  rw [Below.heap_alloc _ _ _ (lt_of_block h)]; exact h
theorem Blk.kept {S : List Nat} {w w' : World} {b : Nat} {cs : Array Value} {t : TypeId} (h : Blk w b cs t) (k : Kept S w w') (hn : b ∉ S) : Blk w' b cs t := k.at h hn
theorem caught_stop (b : Nat) (st n0 e0 : Int) (v1 v2 : Value) (e : Int) (w : World) (h0 : Blk w b #[I st, v1, v2] 53) (h1 : Blk w (b + 1) #[I n0] 3) (h2 : Blk w (b + 1 + 1) #[I e0] 26) :
    CallsD Tryz.prog 50 #[Ptr b, Ptr (b + 1), Ptr (b + 1 + 1)] (.panicking [{ v := Stop e, recovered := false }]) w fun r u' w' =>
      r = .returned (.tuple #[]) ∧ u' = .panicking [{ v := Stop e, recovered := true }] ∧
        Blk w' b #[I 0, .slice none 0 0, .slice none 0 0] 53 ∧ Blk w' (b + 1) #[I 0] 3 ∧ Blk w' (b + 1 + 1) #[I e] 26 ∧ Kept [b, b + 1, b + 1 + 1] w w' := by
  have c0 : w.cell? ⟨b, 0, none⟩ = some (I st) := cell_at h0 0
  have c1 : w.cell? ⟨b, 1, none⟩ = some v1 := cell_at h0 1
  have c2 : w.cell? ⟨b, 2, none⟩ = some v2 := cell_at h0 2
  have c3 : w.cell? ⟨b + 1, 0, none⟩ = some (I n0) := cell_at h1 0
  have c4 : w.cell? ⟨b + 1 + 1, 0, none⟩ = some (I e0) := cell_at h2 0
  have g0 := free_at h0 0
  have g1 := free_at h0 1
  have g2 := free_at h0 2
  have g3 := free_at h1 0
  have g4 := free_at h2 0
  have l2 : b + 1 + 1 < w.heap.size := lt_of_block h2
  have l1 : b + 1 < w.heap.size := lt_of_block h1
  have l0 : b < w.heap.size := lt_of_block h0
  have HB := Lib.hid (And.intro h0 (And.intro h1 h2))
  clear h0 h1 h2
  refine callsD_of_wpS Tryz.func50 rfl fun c₀ cs hu => ?_
  simp only [Tryz.ntmps50, List.size_toArray, List.length_cons, List.length_nil, Nat.reduceAdd, Nat.reduceSub, Array.replicate_succ, Array.replicate_zero, List.push_toArray, List.append_toArray, List.nil_append, List.cons_append]
  apply wpS_seq
  apply wpS_region
  have h := ta_yes e w
  simp [wpOpsS, go_sem, recoverD, hu, Exit.thenS, h]
  refine wpS_of_wp ?_
  go_wp2
  go_region
  all_goals
    go_wp2
    cases c₀
    simp_all [bodyPostS, results, Tryz.results50]
    obtain ⟨h0, h1, h2⟩ := HB.out
    refine ⟨?_, ?_, ?_, ?_⟩
    · exact Blk.alloc (((((h0.set 0 _).set 1 _).set 2 _).other (b + 1) 0 _ (by omega)).other (b + 1 + 1) 0 _ (by omega)) _
    · exact Blk.alloc (((((h1.other b 0 _ (by omega)).other b 1 _ (by omega)).other b 2 _ (by omega)).set 0 _).other (b + 1 + 1) 0 _ (by omega)) _
    · exact Blk.alloc (((((h2.other b 0 _ (by omega)).other b 1 _ (by omega)).other b 2 _ (by omega)).other (b + 1) 0 _ (by omega)).set 0 _) _
    · exact (((((((Kept.refl [b, b + 1, b + 1 + 1] w).setCell (.inl (by simp)) _).setCell (.inl (by simp)) _).setCell (.inl (by simp)) _).setCell (.inl (by simp)) _).setCell (.inl (by simp)) _).alloc _).drew
end
section
set_option maxHeartbeats 8000000
set_option maxRecDepth 100000
/-! ### The status -/
theorem all3 (p : UInt8 → Bool) (l : List UInt8) (h : 12 ≤ l.length) : ((l.take 12).drop 9).all p = (p (byteAt l 9) && p (byteAt l 10) && p (byteAt l 11)) := by
  have e : (l.take 12).drop 9 = [byteAt l 9, byteAt l 10, byteAt l 11] := by
    rw [List.drop_take, drop_byte l 9 (by omega), drop_byte l 10 (by omega), drop_byte l 11 (by omega)]; rfl
  rw [e]; simp [Bool.and_assoc]
theorem digs3 (l : List UInt8) (h : 12 ≤ l.length) : digsN ((l.take 12).drop 9) = statN l := by
  have e : (l.take 12).drop 9 = [byteAt l 9, byteAt l 10, byteAt l 11] := by
    rw [List.drop_take, drop_byte l 9 (by omega), drop_byte l 10 (by omega), drop_byte l 11 (by omega)]; rfl
  rw [e]; unfold digsN statN; simp [List.foldl]; omega
theorem one7 (l : List UInt8) (h : 13 ≤ l.length) : numZ ((l.take 8).drop 7) = if digC (byteAt l 7) then (((byteAt l 7).toNat - 48 : Nat) : Int) else -1 := by
  have e : (l.take 8).drop 7 = [byteAt l 7] := by
    rw [List.drop_take, drop_byte l 7 (by omega)]; rfl
  rw [e]; unfold numZ digsN; simp
theorem num9 (l : List UInt8) (h : 13 ≤ l.length) : numZ ((l.take 12).drop 9) = if digC (byteAt l 9) && digC (byteAt l 10) && digC (byteAt l 11) then (statN l : Int) else -1 := by
  unfold numZ; rw [all3 _ _ (by omega), digs3 _ (by omega)]
/-- the parts of a first line -/
structure StatP (l : List UInt8) (b1 b2 b3 b4 b5 b6 : Bool) : Prop where
  len : decide (13 ≤ l.length) = true
  e1 : (l.take 7 == httpL) = b1
  e2 : (byteAt l 8 == 32) = b2
  e3 : (byteAt l 12 == 32) = b3
  e4 : digC (byteAt l 7) = b4
  e5 : (digC (byteAt l 9) && digC (byteAt l 10) && digC (byteAt l 11)) = b5
  e6 : textB (l.drop 13) = b6
theorem statF_parts {l : List UInt8} {b1 b2 b3 b4 b5 b6 : Bool} (h : StatP l b1 b2 b3 b4 b5 b6) : statF l = if b1 && b2 && b3 && b4 && b5 && b6 then (if 100 ≤ statN l ∧ statN l ≤ 599 then statN l else 0) else 0 := by
  obtain ⟨h0, rfl, rfl, rfl, rfl, rfl, rfl⟩ := h
  unfold statF
  rw [h0]
  congr 1
  apply propext
  simp only [Bool.and_eq_true, Bool.true_and]
  constructor <;> (intro h; simp_all)
theorem byte_eqI (c : UInt8) (n : Nat) (hn : n < 256) (b : Bool) (h : (c == UInt8.ofNat n) = b) : ((c.toNat : Int) == (n : Int)) = b := by
  rw [← h, Bool.eq_iff_iff]
  simp only [beq_iff_eq]
  constructor
  · intro e; apply UInt8.toNat.inj; rw [UInt8.toNat_ofNat']; omega
  · intro e; rw [e, UInt8.toNat_ofNat']; omega
theorem byte_eq32 (c : UInt8) (b : Bool) (h : (c == 32) = b) : ((c.toNat : Int) == 32) = b := byte_eqI c 32 (by omega) b h
theorem hasPrefix_http (l : List UInt8) : Lib.hasPrefix l [72, 84, 84, 80, 47, 49, 46] = (l.take 7 == httpL) := by
  unfold Lib.hasPrefix
  rw [Bool.eq_iff_iff, List.isPrefixOf_iff_prefix, beq_iff_eq]
  constructor
  · rintro ⟨t, rfl⟩; rfl
  · intro h; exact ⟨l.drop 7, by rw [← show l.take 7 = [72, 84, 84, 80, 47, 49, 46] from h, List.take_append_drop]⟩
theorem digC_or (l : List UInt8) : (digC (byteAt l 9) && digC (byteAt l 10) && digC (byteAt l 11)) = true ∨ (digC (byteAt l 9) && digC (byteAt l 10) && digC (byteAt l 11)) = false := by
  cases (digC (byteAt l 9) && digC (byteAt l 10) && digC (byteAt l 11)) <;> simp
theorem statN_bd (l : List UInt8) (h : (digC (byteAt l 9) && digC (byteAt l 10) && digC (byteAt l 11)) = true) : statN l ≤ 999 := by
  simp only [Bool.and_eq_true] at h
  have h1 := digC_yes h.1.1
  have h2 := digC_yes h.1.2
  have h3 := digC_yes h.2
  unfold statN; omega
def StPost (r : Nat) (w : World) (e : Ending) (w' : World) : Prop :=
  (r ≠ 0 ∧ e = .returned (I r) ∧ w = w') ∨ (r = 0 ∧ e = .panicked [{ v := Stop 170, recovered := false }] ∧ w = w')
theorem status_any (l : List UInt8) (w : World) (hl : l.length ≤ 9223372036854775807) (r : Nat) (hr : statF l = r) :
    Calls Tryz.prog 54 #[S l] w (StPost r w) := by
  have hl' : (l.length : Int) ≤ 9223372036854775807 := by omega
  have HR := Lib.hid hr
  clear hr
  have HM0 := Lib.hid (must_no 170)
  have HM1 := Lib.hid (must_yes 170)
  have hpx : Hid (∀ b, (l.take 7 == httpL) = b → Calls Tryz.prog 82 #[S l, S [72, 84, 84, 80, 47, 49, 46]] w fun e w' => e = .returned (.bool b) ∧ w = w') := Lib.hid fun b hb => by
    have := Tryz.strings_HasPrefix ⟨l.toArray⟩ ⟨#[72, 84, 84, 80, 47, 49, 46]⟩ w
    refine this.mono fun e w' h => ⟨?_, h.2.symm⟩
    rw [h.1, ← hb, ← hasPrefix_http]
  by_cases h13 : 13 ≤ l.length
  case neg =>
    have HF : Hid (r = 0) := Lib.hid (by rw [← HR.out]; unfold statF; rw [show decide (13 ≤ l.length) = false from decide_eq_false h13]; rfl)
    have h13' : ¬ (l.length : Int) ≥ 13 := by omega
    go_enter Tryz.func54, Tryz.ntmps54
    go_wp2_with (fail)
    refine (HM0.out w).mono ?_
    rintro e w1 ⟨rfl, rfl⟩
    go_wp2_with (fail)
    exact ⟨rfl, .inr ⟨HF.out, rfl, rfl⟩⟩
  have h13' : (l.length : Int) ≥ 13 := by omega
  obtain ⟨b1, hb1⟩ : ∃ b, (l.take 7 == httpL) = b := ⟨_, rfl⟩
  obtain ⟨b2, hb2⟩ : ∃ b, (byteAt l 8 == 32) = b := ⟨_, rfl⟩
  obtain ⟨b3, hb3⟩ : ∃ b, (byteAt l 12 == 32) = b := ⟨_, rfl⟩
  obtain ⟨b4, hb4⟩ : ∃ b, digC (byteAt l 7) = b := ⟨_, rfl⟩
  obtain ⟨b5, hb5⟩ : ∃ b, (digC (byteAt l 9) && digC (byteAt l 10) && digC (byteAt l 11)) = b := ⟨_, rfl⟩
  obtain ⟨b6, hb6⟩ : ∃ b, textB (l.drop 13) = b := ⟨_, rfl⟩
  have HP := Lib.hid (statF_parts ⟨decide_eq_true h13, hb1, hb2, hb3, hb4, hb5, hb6⟩)
  have H7 := Lib.hid (one7 l h13)
  have H9 := Lib.hid (num9 l h13)
  have HN := Lib.hid (statN_bd l)
  have HX := hpx.out b1 hb1
  have HB2 := byte_eq32 _ b2 hb2
  have HB3 := byte_eq32 _ b3 hb3
  rw [hb4] at H7
  rw [hb5] at H9 HN
  have HB6 := Lib.hid hb6
  have HXC := Lib.hid HX
  clear hb1 hb2 hb3 hb4 hb5 hb6 HX hpx
  cases b1 with
  | false =>
    have HF : Hid (r = 0) := Lib.hid (by rw [← HR.out, HP.out]; rfl)
    go_enter Tryz.func54, Tryz.ntmps54
    go_wp2_with ((go_at_call 82; (with_reducible refine HXC.out.mono ?_); rintro r w5 ⟨rfl, rfl⟩))
    refine (HM0.out w).mono ?_
    rintro e w1 ⟨rfl, rfl⟩
    go_wp2_with (fail)
    exact ⟨rfl, .inr ⟨HF.out, rfl, rfl⟩⟩
  | true =>
  cases b2 with
  | false =>
    have HF : Hid (r = 0) := Lib.hid (by rw [← HR.out, HP.out]; rfl)
    go_enter Tryz.func54, Tryz.ntmps54
    go_wp2_with ((go_at_call 82; (with_reducible refine HXC.out.mono ?_); rintro r w5 ⟨rfl, rfl⟩))
    refine (HM0.out w).mono ?_
    rintro e w1 ⟨rfl, rfl⟩
    go_wp2_with (fail)
    exact ⟨rfl, .inr ⟨HF.out, rfl, rfl⟩⟩
  | true =>
  cases b3 with
  | false =>
    have HF : Hid (r = 0) := Lib.hid (by rw [← HR.out, HP.out]; rfl)
    go_enter Tryz.func54, Tryz.ntmps54
    go_wp2_with ((go_at_call 82; (with_reducible refine HXC.out.mono ?_); rintro r w5 ⟨rfl, rfl⟩))
    refine (HM0.out w).mono ?_
    rintro e w1 ⟨rfl, rfl⟩
    go_wp2_with (fail)
    exact ⟨rfl, .inr ⟨HF.out, rfl, rfl⟩⟩
  | true =>
  cases b4 with
  | false =>
    have HF : Hid (r = 0) := Lib.hid (by rw [← HR.out, HP.out]; rfl)
    have HC : Hid (Calls Tryz.prog 83 #[S ((l.take 8).drop 7)] w fun e w' => e = .returned (I (-1)) ∧ w = w') := Lib.hid (number_any _ w (by simp; omega) _ (by rw [H7.out]; rfl))
    go_enter Tryz.func54, Tryz.ntmps54
    go_wp2_with (first
      | (go_at_call 82; (with_reducible refine HXC.out.mono ?_); rintro r w5 ⟨rfl, rfl⟩)
      | (go_at_call 83; (with_reducible refine HC.out.mono ?_); rintro r w5 ⟨rfl, rfl⟩))
    refine (HM0.out w).mono ?_
    rintro e w1 ⟨rfl, rfl⟩
    go_wp2_with (fail)
    exact ⟨rfl, .inr ⟨HF.out, rfl, rfl⟩⟩
  | true =>
  obtain ⟨x7, hx7⟩ : ∃ x : Nat, (byteAt l 7).toNat - 48 = x := ⟨_, rfl⟩
  have HC : Hid (Calls Tryz.prog 83 #[S ((l.take 8).drop 7)] w fun e w' => e = .returned (I (x7 : Int)) ∧ w = w') := Lib.hid (number_any _ w (by simp; omega) _ (by rw [H7.out, ← hx7]; rfl))
  clear hx7
  cases b5 with
  | false =>
    have HF : Hid (r = 0) := Lib.hid (by rw [← HR.out, HP.out]; rfl)
    have HC9 : Hid (Calls Tryz.prog 83 #[S ((l.take 12).drop 9)] w fun e w' => e = .returned (I (-1)) ∧ w = w') := Lib.hid (number_any _ w (by simp; omega) _ (by rw [H9.out]; rfl))
    go_enter Tryz.func54, Tryz.ntmps54
    go_wp2_with (first
      | (go_at_call 82; (with_reducible refine HXC.out.mono ?_); rintro r w5 ⟨rfl, rfl⟩)
      | (go_at_call 83; (with_reducible refine HC.out.mono ?_); rintro r w5 ⟨rfl, rfl⟩)
      | (go_at_call 52; (with_reducible refine (HM1.out w).mono ?_); rintro r w5 ⟨rfl, rfl⟩)
      | (go_at_call 83; (with_reducible refine HC9.out.mono ?_); rintro r w5 ⟨rfl, rfl⟩))
    refine (HM0.out w).mono ?_
    rintro e w1 ⟨rfl, rfl⟩
    go_wp2_with (fail)
    exact ⟨rfl, .inr ⟨HF.out, rfl, rfl⟩⟩
  | true =>
  obtain ⟨x, hx⟩ : ∃ x : Nat, statN l = x := ⟨_, rfl⟩
  have hxb : x ≤ 999 := by rw [← hx]; exact HN.out rfl
  have HC9 : Hid (Calls Tryz.prog 83 #[S ((l.take 12).drop 9)] w fun e w' => e = .returned (I (x : Int)) ∧ w = w') := Lib.hid (number_any _ w (by simp; omega) _ (by rw [H9.out, hx]; rfl))
  rw [hx] at HP
  clear hx
  by_cases h1 : 100 ≤ x
  case neg =>
    have HF : Hid (r = 0) := Lib.hid (by rw [← HR.out, HP.out, if_neg (by omega : ¬ (100 ≤ x ∧ x ≤ 599))]; simp)
    have h1' : ¬ (x : Int) ≥ 100 := by omega
    go_enter Tryz.func54, Tryz.ntmps54
    go_wp2_with (first
      | (go_at_call 82; (with_reducible refine HXC.out.mono ?_); rintro r w5 ⟨rfl, rfl⟩)
      | (go_at_call 83; (with_reducible refine HC.out.mono ?_); rintro r w5 ⟨rfl, rfl⟩)
      | (go_at_call 52; (with_reducible refine (HM1.out w).mono ?_); rintro r w5 ⟨rfl, rfl⟩)
      | (go_at_call 83; (with_reducible refine HC9.out.mono ?_); rintro r w5 ⟨rfl, rfl⟩))
    refine (HM0.out w).mono ?_
    rintro e w1 ⟨rfl, rfl⟩
    go_wp2_with (fail)
    exact ⟨rfl, .inr ⟨HF.out, rfl, rfl⟩⟩
  have h1' : (x : Int) ≥ 100 := by omega
  by_cases h2 : x ≤ 599
  case neg =>
    have HF : Hid (r = 0) := Lib.hid (by rw [← HR.out, HP.out, if_neg (by omega : ¬ (100 ≤ x ∧ x ≤ 599))]; simp)
    have h2' : ¬ (x : Int) ≤ 599 := by omega
    go_enter Tryz.func54, Tryz.ntmps54
    go_wp2_with (first
      | (go_at_call 82; (with_reducible refine HXC.out.mono ?_); rintro r w5 ⟨rfl, rfl⟩)
      | (go_at_call 83; (with_reducible refine HC.out.mono ?_); rintro r w5 ⟨rfl, rfl⟩)
      | (go_at_call 52; (with_reducible refine (HM1.out w).mono ?_); rintro r w5 ⟨rfl, rfl⟩)
      | (go_at_call 83; (with_reducible refine HC9.out.mono ?_); rintro r w5 ⟨rfl, rfl⟩))
    refine (HM0.out w).mono ?_
    rintro e w1 ⟨rfl, rfl⟩
    go_wp2_with (fail)
    exact ⟨rfl, .inr ⟨HF.out, rfl, rfl⟩⟩
  have h2' : (x : Int) ≤ 599 := by omega
  have HT : Hid (Calls Tryz.prog 57 #[S (l.drop 13)] w fun e w' => e = .returned (.bool b6) ∧ w = w') := Lib.hid (by rw [← HB6.out]; exact text_any _ w (by simp; omega))
  cases b6 with
  | false =>
    have HF : Hid (r = 0) := Lib.hid (by rw [← HR.out, HP.out]; rfl)
    go_enter Tryz.func54, Tryz.ntmps54
    go_wp2_with (first
      | (go_at_call 82; (with_reducible refine HXC.out.mono ?_); rintro r w5 ⟨rfl, rfl⟩)
      | (go_at_call 83; (with_reducible refine HC.out.mono ?_); rintro r w5 ⟨rfl, rfl⟩)
      | (go_at_call 52; (with_reducible refine (HM1.out w).mono ?_); rintro r w5 ⟨rfl, rfl⟩)
      | (go_at_call 57; (with_reducible refine HT.out.mono ?_); rintro r w5 ⟨rfl, rfl⟩)
      | (go_at_call 83; (with_reducible refine HC9.out.mono ?_); rintro r w5 ⟨rfl, rfl⟩))
    refine (HM0.out w).mono ?_
    rintro e w1 ⟨rfl, rfl⟩
    go_wp2_with (fail)
    exact ⟨rfl, .inr ⟨HF.out, rfl, rfl⟩⟩
  | true =>
    have HF : Hid (r = x) := Lib.hid (by rw [← HR.out, HP.out, if_pos (⟨h1, h2⟩ : 100 ≤ x ∧ x ≤ 599)]; rfl)
    go_enter Tryz.func54, Tryz.ntmps54
    go_wp2_with (first
      | (go_at_call 82; (with_reducible refine HXC.out.mono ?_); rintro r w5 ⟨rfl, rfl⟩)
      | (go_at_call 83; (with_reducible refine HC.out.mono ?_); rintro r w5 ⟨rfl, rfl⟩)
      | (go_at_call 52; (with_reducible refine (HM1.out w).mono ?_); rintro r w5 ⟨rfl, rfl⟩)
      | (go_at_call 57; (with_reducible refine HT.out.mono ?_); rintro r w5 ⟨rfl, rfl⟩)
      | (go_at_call 83; (with_reducible refine HC9.out.mono ?_); rintro r w5 ⟨rfl, rfl⟩))
    go_ret
    exact .inl ⟨by rw [HF.out]; omega, by rw [HF.out] <;> rfl, rfl⟩
end
section
set_option maxHeartbeats 8000000
set_option maxRecDepth 100000
/-! ### The reference's first -/
theorem rfirst_any (l : List UInt8) (w : World) (hl : l.length ≤ 9223372036854775807) (r : Nat) (hr : statF l = r) :
    Calls Tryz.prog 66 #[S l] w fun e w' => e = .returned (I r) ∧ Kept [] w w' := by
  have hl' : (l.length : Int) ≤ 9223372036854775807 := by omega
  have HR := Lib.hid hr
  clear hr
  by_cases h13 : 13 ≤ l.length
  case neg =>
    have HF : Hid (r = 0) := Lib.hid (by rw [← HR.out]; unfold statF; rw [show decide (13 ≤ l.length) = false from decide_eq_false h13]; rfl)
    have h13' : (l.length : Int) < 13 := by omega
    go_enter Tryz.func66, Tryz.ntmps66
    go_wp2_with (fail)
    all_goals (go_ret; exact ⟨by rw [HF.out] <;> rfl, (Kept.refl _ _)⟩)
  have h13' : ¬ (l.length : Int) < 13 := by omega
  have h13'' : (13 : Int) ≤ l.length := by omega
  obtain ⟨b1, hb1⟩ : ∃ b, (l.take 7 == httpL) = b := ⟨_, rfl⟩
  obtain ⟨b2, hb2⟩ : ∃ b, (byteAt l 8 == 32) = b := ⟨_, rfl⟩
  obtain ⟨b3, hb3⟩ : ∃ b, (byteAt l 12 == 32) = b := ⟨_, rfl⟩
  obtain ⟨b6, hb6⟩ : ∃ b, textB (l.drop 13) = b := ⟨_, rfl⟩
  have HP := Lib.hid (statF_parts ⟨decide_eq_true h13, hb1, hb2, hb3, rfl, rfl, hb6⟩)
  have HB1 : (l.take 7 == [72, 84, 84, 80, 47, 49, 46]) = b1 := hb1
  have HB2 := byte_eq32 _ b2 hb2
  have HB3 := byte_eq32 _ b3 hb3
  have HT : Hid (Calls Tryz.prog 68 #[S (l.drop 13)] w fun e w' => e = .returned (.bool b6) ∧ w = w') := Lib.hid (by rw [← hb6]; exact ok_any _ w (by simp; omega))
  clear hb1 hb2 hb3 hb6
  cases b1 with
  | false =>
    have HF : Hid (r = 0) := Lib.hid (by rw [← HR.out, HP.out]; simp)
    go_enter Tryz.func66, Tryz.ntmps66
    go_wp2_with (fail)
    all_goals (go_ret; exact ⟨by rw [HF.out] <;> rfl, (Kept.refl _ _)⟩)
  | true =>
  cases b2 with
  | false =>
    have HN2 : (((byteAt l 8).toNat : Int) != 32) = true := by rw [bne, HB2]; rfl
    clear HB2
    have HF : Hid (r = 0) := Lib.hid (by rw [← HR.out, HP.out]; simp)
    go_enter Tryz.func66, Tryz.ntmps66
    go_wp2_with (fail)
    all_goals (go_ret; exact ⟨by rw [HF.out] <;> rfl, (Kept.refl _ _)⟩)
  | true =>
  have HN2 : (((byteAt l 8).toNat : Int) != 32) = false := by rw [bne, HB2]; rfl
  clear HB2
  cases b3 with
  | false =>
    have HN3 : (((byteAt l 12).toNat : Int) != 32) = true := by rw [bne, HB3]; rfl
    clear HB3
    have HF : Hid (r = 0) := Lib.hid (by rw [← HR.out, HP.out]; simp)
    go_enter Tryz.func66, Tryz.ntmps66
    go_wp2_with (fail)
    all_goals (go_ret; exact ⟨by rw [HF.out] <;> rfl, (Kept.refl _ _)⟩)
  | true =>
  have HN3 : (((byteAt l 12).toNat : Int) != 32) = false := by rw [bne, HB3]; rfl
  clear HB3
  cases b6 with
  | false =>
    have HF : Hid (r = 0) := Lib.hid (by rw [← HR.out, HP.out]; simp)
    go_enter Tryz.func66, Tryz.ntmps66
    go_wp2_with ((go_at_call 68; (with_reducible refine HT.out.mono ?_); rintro r w5 ⟨rfl, rfl⟩))
    all_goals (go_ret; exact ⟨by rw [HF.out] <;> rfl, (Kept.refl _ _)⟩)
  | true =>
  obtain ⟨c7, hc7⟩ : ∃ c, byteAt l 7 = c := ⟨_, rfl⟩
  obtain ⟨c9, hc9⟩ : ∃ c, byteAt l 9 = c := ⟨_, rfl⟩
  obtain ⟨c10, hc10⟩ : ∃ c, byteAt l 10 = c := ⟨_, rfl⟩
  obtain ⟨c11, hc11⟩ : ∃ c, byteAt l 11 = c := ⟨_, rfl⟩
  have hst : statN l = 100 * (c9.toNat - 48) + 10 * (c10.toNat - 48) + (c11.toNat - 48) := by unfold statN; rw [hc9, hc10, hc11]
  rw [hc7, hc9, hc10, hc11] at HP
  cases hd7 : digC c7 with
  | false =>
    have HF : Hid (r = 0) := Lib.hid (by rw [← HR.out, HP.out, hd7]; simp)
    have HD7 : Hid (∀ w, Calls Tryz.prog 101 #[B c7] w fun e w' => e = .returned (.bool false) ∧ w = w') := Lib.hid fun w => digit_at c7 w false hd7
    clear hd7 hst
    go_enter Tryz.func66, Tryz.ntmps66
    go_wp2_with (first
      | (go_at_call 68; (with_reducible refine HT.out.mono ?_); rintro r w5 ⟨rfl, rfl⟩)
      | (go_at_call 101; (with_reducible refine (HD7.out w).mono ?_); rintro r w5 ⟨rfl, rfl⟩)
      | (go_at_call 101; (with_reducible refine (HD9.out w).mono ?_); rintro r w5 ⟨rfl, rfl⟩)
      | (go_at_call 101; (with_reducible refine (HD10.out w).mono ?_); rintro r w5 ⟨rfl, rfl⟩)
      | (go_at_call 101; (with_reducible refine (HD11.out w).mono ?_); rintro r w5 ⟨rfl, rfl⟩))
    all_goals (go_ret; exact ⟨by rw [HF.out] <;> rfl, (Kept.refl _ _)⟩)
  | true =>
  obtain ⟨d7a, d7b⟩ := digC_yes hd7
  have d7A : (48 : Int) ≤ c7.toNat := by omega
  have d7B : (c7.toNat : Int) ≤ 57 := by omega
  have HD7 : Hid (∀ w, Calls Tryz.prog 101 #[B c7] w fun e w' => e = .returned (.bool true) ∧ w = w') := Lib.hid fun w => digit_at c7 w true hd7
  cases hd9 : digC c9 with
  | false =>
    have HF : Hid (r = 0) := Lib.hid (by rw [← HR.out, HP.out, hd9]; simp)
    have HD9 : Hid (∀ w, Calls Tryz.prog 101 #[B c9] w fun e w' => e = .returned (.bool false) ∧ w = w') := Lib.hid fun w => digit_at c9 w false hd9
    clear hd9 hst
    go_enter Tryz.func66, Tryz.ntmps66
    go_wp2_with (first
      | (go_at_call 68; (with_reducible refine HT.out.mono ?_); rintro r w5 ⟨rfl, rfl⟩)
      | (go_at_call 101; (with_reducible refine (HD7.out w).mono ?_); rintro r w5 ⟨rfl, rfl⟩)
      | (go_at_call 101; (with_reducible refine (HD9.out w).mono ?_); rintro r w5 ⟨rfl, rfl⟩)
      | (go_at_call 101; (with_reducible refine (HD10.out w).mono ?_); rintro r w5 ⟨rfl, rfl⟩)
      | (go_at_call 101; (with_reducible refine (HD11.out w).mono ?_); rintro r w5 ⟨rfl, rfl⟩))
    all_goals (go_ret; exact ⟨by rw [HF.out] <;> rfl, (Kept.refl _ _)⟩)
  | true =>
  obtain ⟨d9a, d9b⟩ := digC_yes hd9
  have d9A : (48 : Int) ≤ c9.toNat := by omega
  have d9B : (c9.toNat : Int) ≤ 57 := by omega
  have HD9 : Hid (∀ w, Calls Tryz.prog 101 #[B c9] w fun e w' => e = .returned (.bool true) ∧ w = w') := Lib.hid fun w => digit_at c9 w true hd9
  cases hd10 : digC c10 with
  | false =>
    have HF : Hid (r = 0) := Lib.hid (by rw [← HR.out, HP.out, hd10]; simp)
    have HD10 : Hid (∀ w, Calls Tryz.prog 101 #[B c10] w fun e w' => e = .returned (.bool false) ∧ w = w') := Lib.hid fun w => digit_at c10 w false hd10
    clear hd10 hst
    go_enter Tryz.func66, Tryz.ntmps66
    go_wp2_with (first
      | (go_at_call 68; (with_reducible refine HT.out.mono ?_); rintro r w5 ⟨rfl, rfl⟩)
      | (go_at_call 101; (with_reducible refine (HD7.out w).mono ?_); rintro r w5 ⟨rfl, rfl⟩)
      | (go_at_call 101; (with_reducible refine (HD9.out w).mono ?_); rintro r w5 ⟨rfl, rfl⟩)
      | (go_at_call 101; (with_reducible refine (HD10.out w).mono ?_); rintro r w5 ⟨rfl, rfl⟩)
      | (go_at_call 101; (with_reducible refine (HD11.out w).mono ?_); rintro r w5 ⟨rfl, rfl⟩))
    all_goals (go_ret; exact ⟨by rw [HF.out] <;> rfl, (Kept.refl _ _)⟩)
  | true =>
  obtain ⟨d10a, d10b⟩ := digC_yes hd10
  have d10A : (48 : Int) ≤ c10.toNat := by omega
  have d10B : (c10.toNat : Int) ≤ 57 := by omega
  have HD10 : Hid (∀ w, Calls Tryz.prog 101 #[B c10] w fun e w' => e = .returned (.bool true) ∧ w = w') := Lib.hid fun w => digit_at c10 w true hd10
  cases hd11 : digC c11 with
  | false =>
    have HF : Hid (r = 0) := Lib.hid (by rw [← HR.out, HP.out, hd11]; simp)
    have HD11 : Hid (∀ w, Calls Tryz.prog 101 #[B c11] w fun e w' => e = .returned (.bool false) ∧ w = w') := Lib.hid fun w => digit_at c11 w false hd11
    clear hd11 hst
    go_enter Tryz.func66, Tryz.ntmps66
    go_wp2_with (first
      | (go_at_call 68; (with_reducible refine HT.out.mono ?_); rintro r w5 ⟨rfl, rfl⟩)
      | (go_at_call 101; (with_reducible refine (HD7.out w).mono ?_); rintro r w5 ⟨rfl, rfl⟩)
      | (go_at_call 101; (with_reducible refine (HD9.out w).mono ?_); rintro r w5 ⟨rfl, rfl⟩)
      | (go_at_call 101; (with_reducible refine (HD10.out w).mono ?_); rintro r w5 ⟨rfl, rfl⟩)
      | (go_at_call 101; (with_reducible refine (HD11.out w).mono ?_); rintro r w5 ⟨rfl, rfl⟩))
    all_goals (go_ret; exact ⟨by rw [HF.out] <;> rfl, (Kept.refl _ _)⟩)
  | true =>
  obtain ⟨d11a, d11b⟩ := digC_yes hd11
  have d11A : (48 : Int) ≤ c11.toNat := by omega
  have d11B : (c11.toNat : Int) ≤ 57 := by omega
  have HD11 : Hid (∀ w, Calls Tryz.prog 101 #[B c11] w fun e w' => e = .returned (.bool true) ∧ w = w') := Lib.hid fun w => digit_at c11 w true hd11
  rw [hd7, hd9, hd10, hd11] at HP
  clear hd7 hd9 hd10 hd11
  obtain ⟨x, hx⟩ : ∃ x : Nat, statN l = x := ⟨_, rfl⟩
  rw [hx] at HP hst
  have hxz : 100 * ((c9.toNat : Int) - 48) + 10 * ((c10.toNat : Int) - 48) + ((c11.toNat : Int) - 48) = (x : Int) := by omega
  have HXZ := Lib.hid hxz
  have hxb : x ≤ 999 := by omega
  clear hx hst hxz d7a d7b d9a d9b d10a d10b d11a d11b
  go_enter Tryz.func66, Tryz.ntmps66
  go_wp2_with (first
      | (go_at_call 68; (with_reducible refine HT.out.mono ?_); rintro r w5 ⟨rfl, rfl⟩)
      | (go_at_call 101; (with_reducible refine (HD7.out w).mono ?_); rintro r w5 ⟨rfl, rfl⟩)
      | (go_at_call 101; (with_reducible refine (HD9.out w).mono ?_); rintro r w5 ⟨rfl, rfl⟩)
      | (go_at_call 101; (with_reducible refine (HD10.out w).mono ?_); rintro r w5 ⟨rfl, rfl⟩)
      | (go_at_call 101; (with_reducible refine (HD11.out w).mono ?_); rintro r w5 ⟨rfl, rfl⟩))
  go_quiet (fail)
  rw [HXZ.out]
  by_cases h1 : 100 ≤ x
  case neg =>
    have HF : Hid (r = 0) := Lib.hid (by rw [← HR.out, HP.out, if_neg (by omega : ¬ (100 ≤ x ∧ x ≤ 599))]; simp)
    have h1' : (x : Int) < 100 := by omega
    go_wp2_with (fail)
    go_ret
    exact ⟨by rw [HF.out] <;> rfl, (Kept.refl _ _).drewN _⟩
  have h1' : ¬ (x : Int) < 100 := by omega
  by_cases h2 : x ≤ 599
  case neg =>
    have HF : Hid (r = 0) := Lib.hid (by rw [← HR.out, HP.out, if_neg (by omega : ¬ (100 ≤ x ∧ x ≤ 599))]; simp)
    have h2' : (x : Int) > 599 := by omega
    go_wp2_with (fail)
    go_ret
    exact ⟨by rw [HF.out] <;> rfl, (Kept.refl _ _).drewN _⟩
  have h2' : ¬ (x : Int) > 599 := by omega
  have HF : Hid (r = x) := Lib.hid (by rw [← HR.out, HP.out, if_pos (⟨h1, h2⟩ : 100 ≤ x ∧ x ≤ 599)]; simp)
  go_wp2_with (fail)
  go_ret
  exact ⟨by rw [HF.out] <;> rfl, (Kept.refl _ _).drewN _⟩
/-! ### Num, Get, Same -/
theorem digit_emod (n : Nat) : (48 : Int) + (n : Int) % 10 = ((UInt8.ofNat (48 + n % 10)).toNat : Int) := by
  rw [UInt8.toNat_ofNat']; omega
theorem conv1 (w : World) (c : UInt8) :
    (convert 76 9 (.slice (some ⟨w.heap.size, 0, none⟩) 1 1)).run Tryz.prog (w.alloc (.cells #[.int .u8 (c.toNat : Int)] 5)) = .ok (S [c]) (w.alloc (.cells #[.int .u8 (c.toNat : Int)] 5)) := by
  have hr := run_convert_bytes_arg (P := Tryz.prog) (w.alloc (.cells #[.int .u8 (c.toNat : Int)] 5)) 76 5 Tryz.underlying76 Tryz.underlying5 w.heap.size 0 1 1 [(c.toNat : Int)] rfl (fun i hi => by
    obtain rfl : i = 0 := by omega
    rw [cell_at (heap_new w _)]; rfl) 9 Tryz.underlying9
  rw [hr]
  have : strOfNums [(c.toNat : Int)] = ⟨[c].toArray⟩ := by unfold strOfNums; simp
  rw [this]
theorem conv1_at {W W' : World} {b : Nat} {c : UInt8} (k : Kept [] W W') (hW : W.heap[b]? = some (.cells #[.int .u8 (c.toNat : Int)] 5 (0, 0))) :
    (convert 76 9 (.slice (some ⟨b, 0, none⟩) 1 1)).run Tryz.prog W' = .ok (S [c]) W' := by
  have hb := k.at hW (by simp)
  have hr := run_convert_bytes_arg (P := Tryz.prog) W' 76 5 Tryz.underlying76 Tryz.underlying5 b 0 1 1 [(c.toNat : Int)] rfl (fun i hi => by
    obtain rfl : i = 0 := by omega
    rw [cell_at hb]; rfl) 9 Tryz.underlying9
  rw [hr]
  have : strOfNums [(c.toNat : Int)] = ⟨[c].toArray⟩ := by unfold strOfNums; simp
  rw [this]
theorem dec_step (n : Nat) (h : ¬ n < 10) : Lib.decDigits n = Lib.decDigits (n / 10) ++ [UInt8.ofNat (48 + n % 10)] := by
  rw [Lib.decDigits, dif_neg h]
theorem dec_one (n : Nat) (h : n < 10) : Lib.decDigits n = [UInt8.ofNat (48 + n)] := by rw [Lib.decDigits, dif_pos h]
theorem dec_len (n : Nat) : ∀ k, n < 10 ^ k → 1 ≤ k → (Lib.decDigits n).length ≤ k := by
  induction n using Nat.strongRecOn with
  | _ n ih =>
    intro k hk h1
    by_cases h : n < 10
    · rw [dec_one n h]; simpa using h1
    · rw [dec_step n h, List.length_append]
      obtain ⟨j, rfl⟩ : ∃ j, k = j + 1 := ⟨k - 1, by omega⟩
      rw [Nat.pow_succ] at hk
      have hj : 1 ≤ j := by
        rcases Nat.eq_zero_or_pos j with h0 | h0
        · subst h0; simp at hk; omega
        · exact h0
      have := ih (n / 10) (by omega) j (by omega) hj
      simp; omega
theorem num_ref (n : Nat) : ∀ w : World, n ≤ 9223372036854775807 →
    Calls Tryz.prog 27 #[I n] w fun e w' => e = .returned (S (Lib.decDigits n)) ∧ Kept [] w w' := by
  induction n using Nat.strongRecOn with
  | _ n ih =>
    intro w hn
    have hn' : (n : Int) ≤ 9223372036854775807 := by omega
    by_cases h : n < 10
    · have h' : (n : Int) < 10 := by omega
      obtain ⟨c, hc⟩ : ∃ c, UInt8.ofNat (48 + n) = c := ⟨_, rfl⟩
      have hb : (48 : Int) + n = (c.toNat : Int) := by rw [← hc, UInt8.toNat_ofNat']; omega
      have hcv := conv1 w c
      have HD := Lib.hid (dec_one n h)
      rw [hc] at HD
      clear ih
      go_enter Tryz.func27, Tryz.ntmps27
      go_wp2_with (fail)
      go_ret
      exact ⟨by rw [HD.out] <;> rfl, (Kept.refl _ _).alloc _⟩
    · have h' : ¬ (n : Int) < 10 := by omega
      obtain ⟨c, hc⟩ : ∃ c, UInt8.ofNat (48 + n % 10) = c := ⟨_, rfl⟩
      have hb := digit_emod n
      rw [hc] at hb
      have hcv : ∀ W : World, _ := fun W => conv1 W c
      have hcd := conv1_at (b := w.heap.size) (c := c) (Kept.refl [] (w.alloc (.cells #[.int .u8 (c.toNat : Int)] 5)).drew) (heap_new w _)
      have HD := Lib.hid (dec_step n h)
      rw [hc] at HD
      obtain ⟨m, hm⟩ : ∃ m : Int, (n : Int) / 10 = m := ⟨_, rfl⟩
      have hmn : m = ((n / 10 : Nat) : Int) := by omega
      have HI : Hid (∀ w : World, Calls Tryz.prog 27 #[I m] w fun e w' => e = .returned (S (Lib.decDigits (n / 10))) ∧ Kept [] w w') := Lib.hid fun w => by rw [hmn]; exact ih (n / 10) (by omega) w (by omega)
      have hw1 : IntKind.i64.wrap m = m := IntWalk.i64_in _ (by omega)
      have hw2 : IntKind.i64.wrap ((48 : Int) + (n : Int).tmod 10) = (c.toNat : Int) := by
        rw [Int.tmod_eq_emod_of_nonneg (by omega), hb]
        have := c.toNat_lt
        exact IntWalk.i64_in _ (by omega)
      have hw3 : IntKind.u8.wrap (c.toNat : Int) = (c.toNat : Int) := by
        have := c.toNat_lt
        exact IntWalk.u8_in _ (by omega)
      clear hmn hb
      have hlen := dec_len (n / 10) 19 (by omega) (by omega)
      have hlen' : (Lib.decDigits (n / 10)).length + 1 ≤ 9223372036854775807 := by omega
      clear ih hc hlen
      obtain ⟨q, hq2⟩ : ∃ q, Lib.decDigits (n / 10) = q := ⟨_, rfl⟩
      rw [hq2] at HI HD hlen'
      clear hq2
      go_enter Tryz.func27, Tryz.ntmps27
      go_wp2_with (fail)
      go_region_with ((go_at_call 27; (with_reducible refine (HI.out _).mono ?_); rintro r w5 ⟨rfl, k5⟩; have H5 := Lib.hid k5; (first | have hc5 := conv1_at (b := w.heap.size) (c := c) k5 (heap_new w _) | skip); clear k5))
      all_goals
        go_wp2
        go_ret
        exact ⟨by rw [HD.out] <;> rfl, by first | exact ((Kept.refl [] w).drew.trans' H5.out).alloc _ | exact (((Kept.refl [] w).alloc _).drew).trans' H5.out⟩
end
end Go.Proofs.YtgdncdhalnijcaaGreatDoor
