/- Walks and lemmas on the program of this seat, used by its statements; each theorem bears its own conditions. -/
import Derived.Test.YtgdncdhalnijcaaGreatDoorMRF
namespace Go.Proofs.YtgdncdhalnijcaaGreatDoor
open Go.RowKit
set_option linter.unusedVariables false
set_option linter.unusedSimpArgs false
section
namespace BD
def FoldJ (s : List UInt8) (w0 : World) (a : Act) (w : World) : Prop :=
  w = w0 ∧ ∃ i : Nat, (i < s.length ∧ i < 7 ∧ (s.take i).map lowerB = chunked.take i ∧ ∃ c, s[i]? = some c ∧ 128 ≤ c.toNat) ∧ ∃ u2 u3 u4 u6 u7 u8 u9 u10 u11 u12 u13 u14 u15 u16 u17 u18 u19 u20 u21 u22 u23 u24 u25 u26 u27 u28 u29 u30 u31 u32 u33 u34 u35 u36 u37 u38 u39 u40 u41 u42 u43 u44 u45 u46 u47 u48 u49 u50 u51 u52 u53 u54 u55 u56 u57 u58 u59 u60 u61 u62 u63 u64 u65 u66 u67 u68 u69 u70 u71 u72 u73 u74 u75 u76 u77 u78 u79 u80 u81 u82 u83 u84 u85 u86 u87 u88 u89 u90 u91 u92 u93 u94 u95 u96 u97 u98 u99 u100 u101 u102 u103 u104 u105 u106 u107 u108 u109 u110 u111 u112 u113 u114 u115 u116 u117 u118 u119 u120 u121 u122 : Value, a = ⟨#[S s, S chunked, u2, u3, u4, I i, u6, u7, u8, u9, u10, u11, u12, u13, u14, u15, u16, u17, u18, u19, u20, u21, u22, u23, u24, u25, u26, u27, u28, u29, u30, u31, u32, u33, u34, u35, u36, u37, u38, u39, u40, u41, u42, u43, u44, u45, u46, u47, u48, u49, u50, u51, u52, u53, u54, u55, u56, u57, u58, u59, u60, u61, u62, u63, u64, u65, u66, u67, u68, u69, u70, u71, u72, u73, u74, u75, u76, u77, u78, u79, u80, u81, u82, u83, u84, u85, u86, u87, u88, u89, u90, u91, u92, u93, u94, u95, u96, u97, u98, u99, u100, u101, u102, u103, u104, u105, u106, u107, u108, u109, u110, u111, u112, u113, u114, u115, u116, u117, u118, u119, u120, u121, u122], []⟩
theorem kelvin_size (s : ByteArray) (pos : Nat) (h : (Utf8.decode s pos).1 = 8490) : (Utf8.decode s pos).2 = 3 := by
  have hb : ∀ k, (s.get! (pos + k)).toNat < 256 := fun k => (s.get! (pos + k)).toNat_lt
  have h0 := hb 0; have h1 := hb 1; have h2 := hb 2; have h3 := hb 3
  revert h
  simp only [Utf8.decode, Utf8.runeError]
  repeat' split
  all_goals intro h
  all_goals simp_all
  all_goals omega
theorem chunked_ok : ∀ j, (h : j < chunked.length) → 97 ≤ chunked[j].toNat ∧ chunked[j].toNat ≤ 122 ∧ chunked[j].toNat ≠ 115 := by decide
theorem decode_wide (s : ByteArray) (pos : Nat) : 1 ≤ (Utf8.decode s pos).2 := by
  simp only [Utf8.decode, Utf8.runeError]
  repeat' split
  all_goals simp
theorem not_chunked (s : List UInt8) (i : Nat) (c : UInt8) (h : s[i]? = some c) (hc : 128 ≤ c.toNat) (hi : i < 7) : isChunked s = false := by
  cases hch : isChunked s with
  | false => rfl
  | true =>
    exfalso
    have h1 : s.map lowerB = chunked := by simpa [isChunked] using hch
    have h2 := congrArg (fun l => l[i]?) h1
    simp only [List.getElem?_map, h, Option.map_some] at h2
    have hl : i < chunked.length := hi
    rw [List.getElem?_eq_getElem hl] at h2
    have h3 := Option.some.inj h2
    have h4 := chunked_ok i hl
    rw [← h3] at h4
    unfold lowerB at h4
    rw [if_neg (by omega)] at h4
    omega
theorem decode_fits (s : ByteArray) (pos : Nat) (h : pos < s.size) : pos + (Utf8.decode s pos).2 ≤ s.size := by
  simp only [Utf8.decode, Utf8.runeError]
  repeat' split
  all_goals simp_all
  all_goals omega
theorem lowerB_eq (c t : UInt8) : lowerB c = t ↔ (65 ≤ c.toNat ∧ c.toNat ≤ 90 ∧ c.toNat + 32 = t.toNat) ∨ (¬ (65 ≤ c.toNat ∧ c.toNat ≤ 90) ∧ c.toNat = t.toNat) := by
  have hc := c.toNat_lt
  unfold lowerB
  by_cases h : 65 ≤ c.toNat ∧ c.toNat ≤ 90
  · rw [if_pos h]
    have e : (c + 32).toNat = c.toNat + 32 := by rw [UInt8.toNat_add]; have : (32 : UInt8).toNat = 32 := rfl; omega
    constructor
    · intro he; left; rw [← he, e]; omega
    · intro he; apply UInt8.toNat_inj.1; rw [e]; omega
  · rw [if_neg h]
    constructor
    · intro he; right; rw [he] at h ⊢; exact ⟨h, rfl⟩
    · intro he; apply UInt8.toNat_inj.1; omega
theorem sfold_low (t : Nat) (w : World) (h1 : 97 ≤ t) (h2 : t ≤ 122) (h3 : t ≠ 107) (h4 : t ≠ 115) (hT : Tabs w) : Calls Tryz.prog 116 #[.int .i32 t] w fun e w' => e = .returned (.int .i32 ((t : Int) - 32)) ∧ w = w' := by
  have e : foldOf t = (t : Int) - 32 := by unfold foldOf; rw [if_neg (by omega), if_neg (by omega), if_neg h3, if_neg h4, if_neg (by omega), if_pos ⟨h1, h2⟩]
  rw [← e]; exact sfold_ascii t w (by omega) hT
theorem sfold_up (t : Nat) (w : World) (h1 : 97 ≤ t) (h2 : t ≤ 122) (h3 : t ≠ 107) (h4 : t ≠ 115) (hT : Tabs w) : Calls Tryz.prog 116 #[.int .i32 ((t : Int) - 32)] w fun e w' => e = .returned (.int .i32 t) ∧ w = w' := by
  obtain ⟨u, rfl⟩ : ∃ u, t = u + 32 := ⟨t - 32, by omega⟩
  have e : foldOf u = ((u + 32 : Nat) : Int) := by unfold foldOf; rw [if_neg (by omega), if_neg (by omega), if_neg (by omega), if_neg (by omega), if_pos (by omega)]; omega
  have e2 : ((u + 32 : Nat) : Int) - 32 = (u : Int) := by omega
  rw [← e, show foldOf u - 32 = (u : Int) from by rw [e]; omega]; exact sfold_ascii u w (by omega) hT
theorem sfold_k (w : World) (hT : Tabs w) : Calls Tryz.prog 116 #[.int .i32 107] w fun e w' => e = .returned (.int .i32 8490) ∧ w = w' := sfold_ascii 107 w (by decide) hT
theorem sfold_K (w : World) (hT : Tabs w) : Calls Tryz.prog 116 #[.int .i32 75] w fun e w' => e = .returned (.int .i32 107) ∧ w = w' := sfold_ascii 75 w (by decide) hT
set_option maxRecDepth 1000000 in
set_option maxHeartbeats 2000000 in
theorem fold_any (s : List UInt8) (w : World) (hT : Tabs w) : Calls Tryz.prog 94 #[S s, S chunked] w (FoldPost s w) := by
  obtain ⟨M, hM, hM1, hM2, hM3⟩ : ∃ M : Nat, min (s.length : Int) 7 = (M : Int) ∧ M ≤ s.length ∧ M ≤ 7 ∧ (M = s.length ∨ M = 7) := by
    rw [Int.min_def]
    split
    · exact ⟨s.length, rfl, Nat.le_refl _, by omega, .inl rfl⟩
    · exact ⟨7, rfl, by omega, Nat.le_refl _, .inr rfl⟩
  have hcl : chunked.length = 7 := rfl
  have hM' : min (s.length : Int) ((7 : Nat) : Int) = (M : Int) := hM
  go_enter Tryz.func94, Tryz.ntmps94
  go_wp2_with (fail)
  refine wp_scope_jumps 0 (FoldJ s w) (fun _ _ => 0) rfl ?_ ?_
  · have HT := Lib.hid hT
    clear hT
    go_wp2_with (fail)
    clear hM hM'
    go_loop [5] (fun x => ∃ i : Nat, i ≤ M ∧ x = I i ∧ (s.take i).map lowerB = chunked.take i) (fun x => M - (intOf x).toNat)
    case atStart => exact ⟨0, by omega, rfl, rfl⟩
    case round =>
      obtain ⟨i, hi, rfl, hp⟩ := hrel
      by_cases hlt : i < M
      · have hls : i < s.length := by omega
        have hl7 : i < 7 := by omega
        obtain ⟨c, hc⟩ : ∃ c, s[i] = c := ⟨_, rfl⟩
        have hlc : i < chunked.length := by omega
        obtain ⟨t, ht⟩ : ∃ t, ∀ h : i < chunked.length, chunked[i]'h = t := ⟨chunked[i]'hlc, fun _ => rfl⟩
        obtain ⟨ht1, ht2⟩ : 97 ≤ t.toNat ∧ t.toNat ≤ 122 := by
          rw [← ht hlc]
          have : ∀ j, (h : j < 7) → 97 ≤ chunked[j].toNat ∧ chunked[j].toNat ≤ 122 := by decide
          exact this i hl7
        have hcl' : c.toNat < 256 := c.toNat_lt
        have hor : bits .or .u8 (c.toNat : Int) (t.toNat : Int) = ((c.toNat ||| t.toNat : Nat) : Int) := u8_or_nat _ _ (by omega) (by omega)
        have hca : s[i]? = some c := by rw [List.getElem?_eq_getElem hls, hc]
        have hno : lowerB c ≠ t → isChunked s = false := by
          intro hne
          cases hch : isChunked s with
          | false => rfl
          | true =>
            exfalso; apply hne
            have h1 : s.map lowerB = chunked := by simpa [isChunked] using hch
            have h2 := congrArg (fun l => l[i]?) h1
            simp only [List.getElem?_map, hca, Option.map_some] at h2
            rw [List.getElem?_eq_getElem hlc, ht hlc] at h2
            exact Option.some.inj h2
        have hyes : lowerB c = t → (s.take (i + 1)).map lowerB = chunked.take (i + 1) := by
          intro he
          rw [List.take_succ_eq_append_getElem hls, List.take_succ_eq_append_getElem hlc, List.map_append, hp, hc, ht hlc, List.map_cons, he]
          rfl
        have HN := Lib.hid hno
        have HY := Lib.hid hyes
        have HP := Lib.hid hp
        have HCA := Lib.hid hca
        clear hno hyes hp hca
        by_cases h128 : 128 ≤ c.toNat
        · have hor128 : (128 : Int) ≤ ((c.toNat ||| t.toNat : Nat) : Int) := by have := Nat.left_le_or (n := c.toNat) (m := t.toNat); omega
          go_wp2_with (fail)
          go_step3
          exact ⟨rfl, rfl, i, ⟨hls, hl7, HP.out, c, HCA.out, h128⟩, _, _, _, _, _, _, _, _, _, _, _, _, _, _, _, _, _, _, _, _, _, _, _, _, _, _, _, _, _, _, _, _, _, _, _, _, _, _, _, _, _, _, _, _, _, _, _, _, _, _, _, _, _, _, _, _, _, _, _, _, _, _, _, _, _, _, _, _, _, _, _, _, _, _, _, _, _, _, _, _, _, _, _, _, _, _, _, _, _, _, _, _, _, _, _, _, _, _, _, _, _, _, _, _, _, _, _, _, _, _, _, _, _, _, _, _, _, _, _, _, rfl⟩
        · have hor128 : ¬ ((128 : Int) ≤ ((c.toNat ||| t.toNat : Nat) : Int)) := by have := Nat.or_lt_two_pow (n := 7) (show c.toNat < 2 ^ 7 by omega) (show t.toNat < 2 ^ 7 by omega); omega
          go_wp2_with (fail)
          all_goals (try simp only [beq_iff_eq, beq_eq_false_iff_ne, ne_eq] at *)
          all_goals first
            | (refine ⟨⟨i + 1, by omega, by go_num, HY.out ((lowerB_eq c t).2 (by omega))⟩, by simp [intOf]; omega⟩)
            | (simp only [Exit.jump]
               go_ret
               exact ⟨false, rfl, fun _ => (HN.out (fun he => by have := (lowerB_eq c t).1 he; omega)).symm, Kept.refl _ _⟩)
      · have hiM : i = M := by omega
        subst hiM
        have hfin : s.length = 7 → isChunked s = true := by
          intro h7
          have h1 : s.take i = s := List.take_of_length_le (by omega)
          have h2 : chunked.take i = chunked := List.take_of_length_le (by omega)
          rw [h1, h2] at hp
          simp [isChunked, hp]
        have HF := Lib.hid hfin
        clear hfin hp
        go_wp2_with (fail)
        simp only [Exit.jump]
        go_ret
        refine ⟨_, rfl, fun h7 => ?_, Kept.refl _ _⟩
        rw [HF.out h7]
        simp; omega
  · rintro a' w' ⟨rfl, i, ⟨hi1, hi2, hi3, c, hc, hc1⟩, hJ⟩
    obtain ⟨u2, hJ⟩ := hJ
    obtain ⟨u3, hJ⟩ := hJ
    obtain ⟨u4, hJ⟩ := hJ
    obtain ⟨u6, hJ⟩ := hJ
    obtain ⟨u7, hJ⟩ := hJ
    obtain ⟨u8, hJ⟩ := hJ
    obtain ⟨u9, hJ⟩ := hJ
    obtain ⟨u10, hJ⟩ := hJ
    obtain ⟨u11, hJ⟩ := hJ
    obtain ⟨u12, hJ⟩ := hJ
    obtain ⟨u13, hJ⟩ := hJ
    obtain ⟨u14, hJ⟩ := hJ
    obtain ⟨u15, hJ⟩ := hJ
    obtain ⟨u16, hJ⟩ := hJ
    obtain ⟨u17, hJ⟩ := hJ
    obtain ⟨u18, hJ⟩ := hJ
    obtain ⟨u19, hJ⟩ := hJ
    obtain ⟨u20, hJ⟩ := hJ
    obtain ⟨u21, hJ⟩ := hJ
    obtain ⟨u22, hJ⟩ := hJ
    obtain ⟨u23, hJ⟩ := hJ
    obtain ⟨u24, hJ⟩ := hJ
    obtain ⟨u25, hJ⟩ := hJ
    obtain ⟨u26, hJ⟩ := hJ
    obtain ⟨u27, hJ⟩ := hJ
    obtain ⟨u28, hJ⟩ := hJ
    obtain ⟨u29, hJ⟩ := hJ
    obtain ⟨u30, hJ⟩ := hJ
    obtain ⟨u31, hJ⟩ := hJ
    obtain ⟨u32, hJ⟩ := hJ
    obtain ⟨u33, hJ⟩ := hJ
    obtain ⟨u34, hJ⟩ := hJ
    obtain ⟨u35, hJ⟩ := hJ
    obtain ⟨u36, hJ⟩ := hJ
    obtain ⟨u37, hJ⟩ := hJ
    obtain ⟨u38, hJ⟩ := hJ
    obtain ⟨u39, hJ⟩ := hJ
    obtain ⟨u40, hJ⟩ := hJ
    obtain ⟨u41, hJ⟩ := hJ
    obtain ⟨u42, hJ⟩ := hJ
    obtain ⟨u43, hJ⟩ := hJ
    obtain ⟨u44, hJ⟩ := hJ
    obtain ⟨u45, hJ⟩ := hJ
    obtain ⟨u46, hJ⟩ := hJ
    obtain ⟨u47, hJ⟩ := hJ
    obtain ⟨u48, hJ⟩ := hJ
    obtain ⟨u49, hJ⟩ := hJ
    obtain ⟨u50, hJ⟩ := hJ
    obtain ⟨u51, hJ⟩ := hJ
    obtain ⟨u52, hJ⟩ := hJ
    obtain ⟨u53, hJ⟩ := hJ
    obtain ⟨u54, hJ⟩ := hJ
    obtain ⟨u55, hJ⟩ := hJ
    obtain ⟨u56, hJ⟩ := hJ
    obtain ⟨u57, hJ⟩ := hJ
    obtain ⟨u58, hJ⟩ := hJ
    obtain ⟨u59, hJ⟩ := hJ
    obtain ⟨u60, hJ⟩ := hJ
    obtain ⟨u61, hJ⟩ := hJ
    obtain ⟨u62, hJ⟩ := hJ
    obtain ⟨u63, hJ⟩ := hJ
    obtain ⟨u64, hJ⟩ := hJ
    obtain ⟨u65, hJ⟩ := hJ
    obtain ⟨u66, hJ⟩ := hJ
    obtain ⟨u67, hJ⟩ := hJ
    obtain ⟨u68, hJ⟩ := hJ
    obtain ⟨u69, hJ⟩ := hJ
    obtain ⟨u70, hJ⟩ := hJ
    obtain ⟨u71, hJ⟩ := hJ
    obtain ⟨u72, hJ⟩ := hJ
    obtain ⟨u73, hJ⟩ := hJ
    obtain ⟨u74, hJ⟩ := hJ
    obtain ⟨u75, hJ⟩ := hJ
    obtain ⟨u76, hJ⟩ := hJ
    obtain ⟨u77, hJ⟩ := hJ
    obtain ⟨u78, hJ⟩ := hJ
    obtain ⟨u79, hJ⟩ := hJ
    obtain ⟨u80, hJ⟩ := hJ
    obtain ⟨u81, hJ⟩ := hJ
    obtain ⟨u82, hJ⟩ := hJ
    obtain ⟨u83, hJ⟩ := hJ
    obtain ⟨u84, hJ⟩ := hJ
    obtain ⟨u85, hJ⟩ := hJ
    obtain ⟨u86, hJ⟩ := hJ
    obtain ⟨u87, hJ⟩ := hJ
    obtain ⟨u88, hJ⟩ := hJ
    obtain ⟨u89, hJ⟩ := hJ
    obtain ⟨u90, hJ⟩ := hJ
    obtain ⟨u91, hJ⟩ := hJ
    obtain ⟨u92, hJ⟩ := hJ
    obtain ⟨u93, hJ⟩ := hJ
    obtain ⟨u94, hJ⟩ := hJ
    obtain ⟨u95, hJ⟩ := hJ
    obtain ⟨u96, hJ⟩ := hJ
    obtain ⟨u97, hJ⟩ := hJ
    obtain ⟨u98, hJ⟩ := hJ
    obtain ⟨u99, hJ⟩ := hJ
    obtain ⟨u100, hJ⟩ := hJ
    obtain ⟨u101, hJ⟩ := hJ
    obtain ⟨u102, hJ⟩ := hJ
    obtain ⟨u103, hJ⟩ := hJ
    obtain ⟨u104, hJ⟩ := hJ
    obtain ⟨u105, hJ⟩ := hJ
    obtain ⟨u106, hJ⟩ := hJ
    obtain ⟨u107, hJ⟩ := hJ
    obtain ⟨u108, hJ⟩ := hJ
    obtain ⟨u109, hJ⟩ := hJ
    obtain ⟨u110, hJ⟩ := hJ
    obtain ⟨u111, hJ⟩ := hJ
    obtain ⟨u112, hJ⟩ := hJ
    obtain ⟨u113, hJ⟩ := hJ
    obtain ⟨u114, hJ⟩ := hJ
    obtain ⟨u115, hJ⟩ := hJ
    obtain ⟨u116, hJ⟩ := hJ
    obtain ⟨u117, hJ⟩ := hJ
    obtain ⟨u118, hJ⟩ := hJ
    obtain ⟨u119, hJ⟩ := hJ
    obtain ⟨u120, hJ⟩ := hJ
    obtain ⟨u121, hJ⟩ := hJ
    obtain ⟨u122, hJ⟩ := hJ
    subst hJ
    have HT0 := Lib.hid hT
    have hh0 : (w'.alloc (.stringIter ⟨(s.drop i).toArray⟩ 0)).heap[w'.heap.size]? = some (.stringIter ⟨(s.drop i).toArray⟩ 0) := by
      show (w'.heap.push _)[w'.heap.size]? = _
      simp
    clear hM hM' hT
    have htk : chunked.take 7 = chunked := rfl
    obtain ⟨X, hX⟩ : ∃ X : ByteArray, X = ⟨(s.drop i).toArray⟩ := ⟨_, rfl⟩
    have hXs : X.size = s.length - i := by rw [hX]; simp [ByteArray.size]
    have hX0 : 128 ≤ (Utf8.decode X 0).1 := by
      have h0 : 0 < X.size := by omega
      refine (decode_high X 0 h0 ?_).1
      subst hX
      rw [str_get]
      simp [List.getElem?_eq_getElem hi1] at hc ⊢
      rw [hc]; exact hc1
    have HNC := Lib.hid (not_chunked s i c hc hc1 hi2)
    have HX := Lib.hid hX
    have HX0 := Lib.hid hX0
    have HXS := Lib.hid hXs
    have Hhh := Lib.hid hh0
    clear hX0 hXs hh0 hi3 hc hc1
    rw [← hX] at Hhh
    go_wp2_with (fail)
    rw [← HX.out]
    clear hX HX htk
    go_loopw [1] (fun t wr => ∃ j pos : Nat, t = S (chunked.drop j) ∧ wr.heap[w'.heap.size]? = some (.stringIter X pos) ∧ Kept [] w' wr ∧ i ≤ j ∧ j ≤ 7 ∧ ((j = i ∧ pos = 0) ∨ j - i + 2 ≤ pos) ∧ pos ≤ X.size) (fun _ wr => X.size - wr.iterPos w'.heap.size)
    case atStart => exact ⟨i, 0, rfl, Hhh.out, (Kept.refl _ _).alloc _, Nat.le_refl _, by omega, .inl ⟨rfl, rfl⟩, Nat.zero_le _⟩
    case round =>
      obtain ⟨j, pos, rfl, hit, hk, hij, hj7, hpos, hps⟩ := hrel
      by_cases hlt : pos < X.size
      · have hnx := fun ty => Lib.run_next_any_at (P := Tryz.prog) wr w'.heap.size X pos ty hit hlt
        have hr1 := decode_le X pos
        have hr2 := decode_wide X pos
        have hr3 := decode_fits X pos hlt
        have hkel := kelvin_size X pos
        have hlow : (Utf8.decode X pos).1 < 128 → ¬ (j = i ∧ pos = 0) := by
          rintro hl ⟨_, rfl⟩; have := HX0.out; omega
        have hhit := fun p => Lib.iterAt_heap wr w'.heap.size X pos p hit
        have hkk : ∀ p, Kept [] w' (wr.iterAt w'.heap.size X p) := fun p => hk.thenBelow (Lib.below_iterAt (B := w'.heap.size) (Below.refl _ _) (Nat.le_refl _) X p) (Nat.le_refl _)
        have hTT : ∀ p, Tabs (wr.iterAt w'.heap.size X p) := fun p => HT0.out.kept (hkk p)
        have HH := Lib.hid hhit
        have HK := Lib.hid hkk
        have HTT := Lib.hid hTT
        have HIT := Lib.hid hit
        have hip : wr.iterPos w'.heap.size = pos := by unfold World.iterPos; rw [hit]
        have HIP := Lib.hid hip
        clear hhit hkk hTT hip hit
        generalize hr : (Utf8.decode X pos).1 = r at *
        generalize hn : (Utf8.decode X pos).2 = n at *
        have HKE := Lib.hid hkel
        have HLO := Lib.hid hlow
        have HPO := Lib.hid hpos
        clear hkel hlow hpos hr hn
        have hr1' : (r : Int) ≤ 2147483647 := by omega
        by_cases hj : j = 7
        · subst hj
          have hd7 : chunked.drop 7 = [] := rfl
          go_wp2_with (fail)
          simp only [Exit.jump]
          go_ret
          exact ⟨false, rfl, fun _ => HNC.out.symm, HK.out _⟩
        · have hj' : j < 7 := by omega
          have hjc : j < chunked.length := by omega
          obtain ⟨t, htt⟩ : ∃ t, chunked[j]'hjc = t := ⟨_, rfl⟩
          obtain ⟨t1, t2, t3⟩ : 97 ≤ t.toNat ∧ t.toNat ≤ 122 ∧ t.toNat ≠ 115 := by rw [← htt]; exact chunked_ok j hjc
          have hdj : chunked.drop j = t :: chunked.drop (j + 1) := by rw [List.drop_eq_getElem_cons hjc, htt]
          clear htt hjc
          go_wp2_with (fail)
          refine (Tryz.utf8_DecodeRuneInString_ascii ⟨(t :: chunked.drop (j + 1)).toArray⟩ t _ rfl (by omega)).mono ?_
          rintro e w1 ⟨rfl, rfl⟩
          have hsl : (chunked.drop (j + 1)).take (6 - j) = chunked.drop (j + 1) := List.take_of_length_le (by simp; omega)
          have HS := Lib.hid hsl
          clear hsl
          by_cases hrt : r = t.toNat
          · subst hrt
            have hnz := HLO.out (by omega)
            go_wp2_with (fail)
            rw [HS.out]
            have hpo := HPO.out
            exact ⟨⟨j + 1, pos + n, rfl, HH.out _, HK.out _, by omega, by omega, .inr (by omega), by omega⟩, by rw [HIP.out, show (wr.iterAt w'.heap.size X (pos + n)).iterPos w'.heap.size = pos + n from by unfold World.iterPos; rw [HH.out]]; omega⟩
          have hb1 : ((t.toNat : Int) == (r : Int)) = false := by simp; omega
          by_cases hsw : t.toNat < r
          · have hsw' : (t.toNat : Int) < (r : Int) := by omega
            by_cases hasc : r < 128
            · have hasc' : (r : Int) < 128 := by omega
              go_wp2_with (fail)
              simp only [Exit.jump]
              go_ret
              exact ⟨false, rfl, fun _ => HNC.out.symm, HK.out _⟩
            · have hasc' : ¬ (r : Int) < 128 := by omega
              by_cases htk : t.toNat = 107
              · have htk' : (t.toNat : Int) = 107 := by omega
                rw [htk'] at hb1 hsw'
                have hr0 : (128 : Int) ≤ r := by omega
                have HTK := Lib.hid htk
                have HTK' := Lib.hid htk'
                clear htk htk'
                go_wp2_with (fail)
                rw [HTK'.out]
                refine (sfold_k _ (HTT.out _)).mono ?_
                rintro e w2 ⟨rfl, rfl⟩
                by_cases hke : r = 8490
                · have hn3 := HKE.out hke
                  subst hke
                  have HN3 := Lib.hid hn3
                  clear hn3
                  go_wp2_with (fail)
                  go_loop [13] (fun x => x = .int .i32 8490) (fun _ => 0)
                  case atStart => rfl
                  case round =>
                    subst hrel
                    go_wp2_with (fail)
                    rw [HS.out]
                    have hpo := HPO.out
                    have hn3 := HN3.out
                    exact ⟨⟨j + 1, pos + n, rfl, HH.out _, HK.out _, by omega, by omega, .inr (by omega), by omega⟩, by rw [HIP.out, show (wr.iterAt w'.heap.size X (pos + n)).iterPos w'.heap.size = pos + n from by unfold World.iterPos; rw [HH.out]]; omega⟩
                · have hke2 : (r : Int) ≠ 8490 := by omega
                  have hkeb : ((8490 : Int) == (r : Int)) = false := by simp; omega
                  have h107b : ((107 : Int) == (r : Int)) = false := by simp; omega
                  clear hke
                  go_wp2_with (fail)
                  go_loop [13] (fun x => ∃ y : Int, x = .int .i32 y ∧ (y = 8490 ∨ y = 75 ∨ y = 107)) (fun x => if intOf x = 8490 then 2 else if intOf x = 75 then 1 else 0)
                  case atStart => exact ⟨_, rfl, .inl rfl⟩
                  case round =>
                    obtain ⟨y, rfl, hy⟩ := hrel
                    rcases hy with rfl | rfl | rfl
                    · by_cases h84 : (8490 : Int) < r
                      · go_wp2_with (fail)
                        refine (sfold_kelvin _ (HTT.out _)).mono ?_
                        rintro e w3 ⟨rfl, rfl⟩
                        go_wp2_with (fail)
                        exact ⟨⟨75, rfl, .inr (.inl rfl)⟩, by decide⟩
                      · go_wp2_with (fail)
                        simp only [Exit.jump]
                        go_ret
                        exact ⟨false, rfl, fun _ => HNC.out.symm, HK.out _⟩
                    · have h75 : (75 : Int) < r := by omega
                      go_wp2_with (fail)
                      refine (sfold_K _ (HTT.out _)).mono ?_
                      rintro e w3 ⟨rfl, rfl⟩
                      go_wp2_with (fail)
                      exact ⟨⟨107, rfl, .inr (.inr rfl)⟩, by decide⟩
                    · go_wp2_with (fail)
                      simp only [Exit.jump]
                      go_ret
                      exact ⟨false, rfl, fun _ => HNC.out.symm, HK.out _⟩
              · go_wp2_with (fail)
                refine (sfold_low t.toNat _ t1 t2 htk t3 (HTT.out _)).mono ?_
                rintro e w2 ⟨rfl, rfl⟩
                go_wp2_with (fail)
                have hr0 : (128 : Int) ≤ r := by omega
                have ht0 : (97 : Int) ≤ (t.toNat : Int) := by omega
                have ht9 : (t.toNat : Int) ≤ 122 := by omega
                go_loop [13] (fun x => ∃ y : Int, x = .int .i32 y ∧ (y = (t.toNat : Int) - 32 ∨ y = t.toNat)) (fun x => (intOf x - (t.toNat : Int)).natAbs)
                case atStart => exact ⟨_, rfl, .inl rfl⟩
                case round =>
                  obtain ⟨y, rfl, hy⟩ := hrel
                  rcases hy with rfl | rfl
                  · have e1 : (((t.toNat : Int) - 32) != (t.toNat : Int)) = true := by simp; omega
                    have e2 : ((t.toNat : Int) - 32) < (r : Int) := by omega
                    go_wp2_with (fail)
                    refine (sfold_up t.toNat _ t1 t2 htk t3 (HTT.out _)).mono ?_
                    rintro e w3 ⟨rfl, rfl⟩
                    go_wp2_with (fail)
                    exact ⟨⟨t.toNat, rfl, .inr rfl⟩, by simp only [intOf]; omega⟩
                  · go_wp2_with (fail)
                    simp only [Exit.jump]
                    go_ret
                    exact ⟨false, rfl, fun _ => HNC.out.symm, HK.out _⟩
          · have hsw' : ¬ (t.toNat : Int) < (r : Int) := by omega
            have hr8 : (r : Int) < t.toNat := by omega
            have hnz := HLO.out (by omega)
            have HNZ := Lib.hid hnz
            clear hnz
            go_wp2_with (fail)
            all_goals first
              | (simp only [Exit.jump]
                 go_ret
                 exact ⟨false, rfl, fun _ => HNC.out.symm, HK.out _⟩)
              | (rw [HS.out]
                 have hpo := HPO.out
                 have hnz := HNZ.out
                 exact ⟨⟨j + 1, pos + n, rfl, HH.out _, HK.out _, by omega, by omega, .inr (by omega), by omega⟩, by rw [HIP.out, show (wr.iterAt w'.heap.size X (pos + n)).iterPos w'.heap.size = pos + n from by unfold World.iterPos; rw [HH.out]]; omega⟩)
      · have hnx := fun ty => Lib.run_next_end_at (P := Tryz.prog) wr w'.heap.size X pos ty hit hlt
        have HP := Lib.hid hpos
        clear hpos
        go_wp2_with (fail)
        simp only [Exit.jump]
        go_ret
        refine ⟨_, rfl, fun h7 => ?_, hk⟩
        have hp := HP.out
        have hxs := HXS.out
        rw [HNC.out]
        simp
        omega
end BD
end
section
namespace BD
/-! ### 'New' -/
def rdNil : Rd := ⟨0, 0, 0, 0, 0, 0, [], 0⟩
def teName : List UInt8 := [116, 114, 97, 110, 115, 102, 101, 114, 45, 101, 110, 99, 111, 100, 105, 110, 103]
def clName : List UInt8 := [99, 111, 110, 116, 101, 110, 116, 45, 108, 101, 110, 103, 116, 104]
def newF (st : Int) (names values : List (List UInt8)) : Option Rd × Int :=
  if st < 200 ∨ st = 204 ∨ st = 304 then (some { rdNil with state := 11 }, 0)
  else if 0 < (getF names values teName).2 then
    (if 1 < (getF names values teName).2 ∨ 0 < (getF names values clName).2 ∨ isChunked (getF names values teName).1 = false then (none, 180) else (some { rdNil with state := 2, size := -1 }, 0))
  else if 0 < (getF names values clName).2 then
    (if 1 < (getF names values clName).2 ∨ lengthF (getF names values clName).1 < 0 then (none, 180)
     else if 1048576 < lengthF (getF names values clName).1 then (none, 181)
     else (some { rdNil with state := if lengthF (getF names values clName).1 = 0 then 11 else 0, size := lengthF (getF names values clName).1, left := lengthF (getF names values clName).1 }, 0))
  else (some { rdNil with state := 1, size := -1 }, 0)
def NewPost (w : World) (res : Option Rd × Int) (e : Ending) (w' : World) : Prop :=
  (match res.1 with | some r => ∃ b, w.heap.size ≤ b ∧ e = .returned (.tuple #[Ptr b, I res.2]) ∧ RdAt w' b r | none => e = .returned (.tuple #[.pointer none, I res.2])) ∧ Kept [] w w'
theorem NewPost.yes {w w' : World} {res : Option Rd × Int} {r : Rd} {b : Nat} {k : Int} (hr : res = (some r, k)) (hb : w.heap.size ≤ b) (h : RdAt w' b r) (hk : Kept [] w w') : NewPost w res (.returned (.tuple #[Ptr b, I k])) w' := by
  subst hr; exact ⟨⟨b, hb, rfl, h⟩, hk⟩
theorem NewPost.no {w w' : World} {res : Option Rd × Int} {k : Int} (hr : res = (none, k)) (hk : Kept [] w w') : NewPost w res (.returned (.tuple #[.pointer none, I k])) w' := by
  subst hr; exact ⟨rfl, hk⟩
theorem isChunked_len (s : List UInt8) (h : isChunked s = true) : s.length = 7 := by
  have : s.map lowerB = chunked := by simpa [isChunked] using h
  have := congrArg List.length this
  simpa [chunked] using this
theorem heap_new (w : World) (o : Obj) : (w.alloc o).heap[w.heap.size]? = some o := by
  show (w.heap.push o)[w.heap.size]? = _
  simp
theorem rdAt_new (w : World) (r : Rd) : RdAt (w.alloc r.obj) w.heap.size r := by
  unfold RdAt World.alloc; simp
set_option maxRecDepth 100000 in
set_option maxHeartbeats 1000000 in
theorem new_any (st : Int) (nv vv : Value) (names values : List (List UInt8)) (w : World) (hn : StrsAt w nv names) (hv : StrsAt w vv values) (hT : Tabs w) :
    Calls Tryz.prog 60 #[.agg #[I st, nv, vv]] w (NewPost w (newF st names values)) := by
  obtain ⟨te, nte, hte⟩ : ∃ te nte, getF names values teName = (te, nte) := ⟨_, _, rfl⟩
  obtain ⟨cl, ncl, hcl⟩ : ∃ cl ncl, getF names values clName = (cl, ncl) := ⟨_, _, rfl⟩
  have hle := getF_le names values teName
  have hlc := getF_le names values clName
  have hnl : names.length ≤ 9223372036854775807 := by obtain ⟨_, _, _, h, _⟩ := hn; exact h
  rw [hte] at hle
  rw [hcl] at hlc
  simp only at hle hlc
  have HN : Hid (newF st names values = if st < 200 ∨ st = 204 ∨ st = 304 then (some { rdNil with state := 11 }, 0)
      else if 0 < nte then (if 1 < nte ∨ 0 < ncl ∨ isChunked te = false then (none, 180) else (some { rdNil with state := 2, size := -1 }, 0))
      else if 0 < ncl then (if 1 < ncl ∨ lengthF cl < 0 then (none, 180) else if 1048576 < lengthF cl then (none, 181)
        else (some { rdNil with state := if lengthF cl = 0 then 11 else 0, size := lengthF cl, left := lengthF cl }, 0))
      else (some { rdNil with state := 1, size := -1 }, 0)) := by
    unfold Hid newF; rw [hte, hcl]
  have HTE := Lib.hid hte
  have HCL := Lib.hid hcl
  have hA : Kept [] w (w.alloc (.cells #[I st, nv, vv] 53)) := (Kept.refl _ _).alloc _
  have HA := Lib.hid hA
  have HH := Lib.hid (And.intro hn (And.intro hv hT))
  clear hte hcl hA hn hv hT
  go_enter Tryz.func60, Tryz.ntmps60
  go_wp2_with (fail)
  have g1 := get_any st nv vv names values teName (w.alloc (.cells #[I st, nv, vv] 53)) (HH.out.1.kept HA.out) (HH.out.2.1.kept HA.out)
  rw [HTE.out] at g1
  have G1 := Lib.hid g1
  clear g1
  refine G1.out.mono ?_
  rintro e w1 ⟨rfl, k1⟩
  have hb1 : w1.heap[w.heap.size]? = some (.cells #[I st, nv, vv] 53) := k1.at (heap_new _ _) (by simp)
  have c10 : w1.cell? ⟨w.heap.size, 0, none⟩ = some (I st) := by rw [cell_at hb1]; rfl
  have c11 : w1.cell? ⟨w.heap.size, 1, none⟩ = some nv := by rw [cell_at hb1]; rfl
  have c12 : w1.cell? ⟨w.heap.size, 2, none⟩ = some vv := by rw [cell_at hb1]; rfl
  have K1 := HA.out.trans' k1
  have HB1 := Lib.hid hb1
  clear hb1 k1
  go_wp2_with (fail)
  have g2 := get_any st nv vv names values clName w1 (HH.out.1.kept K1) (HH.out.2.1.kept K1)
  rw [HCL.out] at g2
  have G2 := Lib.hid g2
  clear g2
  refine G2.out.mono ?_
  rintro e w2 ⟨rfl, k2⟩
  have hb2 : w2.heap[w.heap.size]? = some (.cells #[I st, nv, vv] 53) := k2.at HB1.out (by simp)
  have c20 : w2.cell? ⟨w.heap.size, 0, none⟩ = some (I st) := by rw [cell_at hb2]; rfl
  have K2 := K1.trans' k2
  have T2 := HH.out.2.2.kept K2
  have Z2 : w.heap.size ≤ w2.heap.size := K2.size
  clear hb2 k2 c10 c11 c12 HB1
  by_cases hst : st < 200 ∨ st = 204 ∨ st = 304
  · have hr : Hid (newF st names values = (some { rdNil with state := 11 }, 0)) := by unfold Hid; rw [HN.out, if_pos hst]
    have hcs : st < 200 ∨ 200 ≤ st ∧ (st == 204) = true ∨ 200 ≤ st ∧ (st == 204) = false ∧ (st == 304) = true := by
      rcases hst with h | h | h
      · exact .inl h
      · subst h; exact .inr (.inl ⟨by decide, rfl⟩)
      · subst h; exact .inr (.inr ⟨by decide, rfl, rfl⟩)
    clear hst HN
    rcases hcs with h1 | ⟨h1, h2⟩ | ⟨h1, h2, h3⟩
    all_goals
      go_wp2_with (fail)
      go_ret2
      exact NewPost.yes hr.out Z2 (rdAt_new _ { rdNil with state := 11 }) (K2.alloc _)
  have h200 : 200 ≤ st := by omega
  have h204 : (st == 204) = false := by simp; omega
  have h304 : (st == 304) = false := by simp; omega
  have HN2 := HN.out
  rw [if_neg hst] at HN2
  have HN3 := Lib.hid HN2
  clear HN HN2 hst
  by_cases hte : 0 < nte
  · have hte' : (0 : Int) < nte := by omega
    have HN2 := HN3.out
    rw [if_pos hte] at HN2
    have HN4 := Lib.hid HN2
    clear HN2 HN3 hte
    by_cases h1 : 1 < nte
    · have h1' : (1 : Int) < nte := by omega
      have hr : Hid (newF st names values = (none, 180)) := by unfold Hid; rw [HN4.out, if_pos (.inl h1)]
      go_wp2_with (fail)
      go_ret2
      exact NewPost.no hr.out K2
    have h1' : ¬ (1 : Int) < nte := by omega
    by_cases h2 : 0 < ncl
    · have h2' : (0 : Int) < ncl := by omega
      have hr : Hid (newF st names values = (none, 180)) := by unfold Hid; rw [HN4.out, if_pos (.inr (.inl h2))]
      go_wp2_with (fail)
      go_ret2
      exact NewPost.no hr.out K2
    have h2' : ¬ (0 : Int) < ncl := by omega
    have HL1 := Lib.hid h1
    have HL2 := Lib.hid h2
    clear h1 h2
    go_wp2_with (fail)
    refine (fold_any te w2 T2).mono ?_
    rintro e w3 ⟨bv, rfl, hbv, k3⟩
    have K3 := K2.trans' k3
    have Z3 : w.heap.size ≤ w3.heap.size := K3.size
    have HBV := Lib.hid hbv
    clear hbv k3
    have HN5 : Hid (newF st names values = if isChunked te = false then (none, 180) else (some { rdNil with state := 2, size := -1 }, 0)) := by
      unfold Hid; rw [HN4.out]
      have q1 := HL1.out
      have q2 := HL2.out
      simp only [q1, q2, false_or]
    cases bv with
    | false =>
      have hr : Hid (newF st names values = (none, 180)) := by
        unfold Hid; rw [HN5.out, if_pos]
        cases hch : isChunked te with
        | false => rfl
        | true => have := HBV.out (isChunked_len te hch); rw [hch] at this; cases this
      go_wp2_with (fail)
      go_ret2
      exact NewPost.no hr.out K3
    | true =>
      by_cases h7 : te.length = 7
      · have hb7 : ((te.length : Int) != 7) = false := by simp; omega
        have hr : Hid (newF st names values = (some { rdNil with state := 2, size := -1 }, 0)) := by
          unfold Hid; rw [HN5.out, if_neg]; rw [← HBV.out h7]; simp
        clear h7
        go_wp2_with (fail)
        go_ret2
        exact NewPost.yes hr.out Z3 (rdAt_new _ { rdNil with state := 2, size := -1 }) (K3.alloc _)
      · have hb7 : ((te.length : Int) != 7) = true := by simp; omega
        have hr : Hid (newF st names values = (none, 180)) := by
          unfold Hid; rw [HN5.out, if_pos]
          cases hch : isChunked te with
          | false => rfl
          | true => exact absurd (isChunked_len te hch) h7
        clear h7
        go_wp2_with (fail)
        go_ret2
        exact NewPost.no hr.out K3
  have hte' : ¬ (0 : Int) < nte := by omega
  have HN2 := HN3.out
  rw [if_neg hte] at HN2
  have HN4 := Lib.hid HN2
  clear HN2 HN3 hte
  by_cases h2 : 0 < ncl
  · have h2' : (0 : Int) < ncl := by omega
    have HN2 := HN4.out
    rw [if_pos h2] at HN2
    have HN5 := Lib.hid HN2
    clear HN2 HN4 h2
    go_wp2_with (fail)
    refine (length_any cl w2).mono ?_
    rintro e w3 ⟨rfl, rfl⟩
    generalize lengthF cl = n at *
    by_cases h1 : 1 < ncl
    · have h1' : (1 : Int) < ncl := by omega
      have hr : Hid (newF st names values = (none, 180)) := by unfold Hid; rw [HN5.out, if_pos (.inl h1)]
      go_wp2_with (fail)
      go_ret2
      exact NewPost.no hr.out K2
    have h1' : ¬ (1 : Int) < ncl := by omega
    by_cases h3 : n < 0
    · have hr : Hid (newF st names values = (none, 180)) := by unfold Hid; rw [HN5.out, if_pos (.inr h3)]
      go_wp2_with (fail)
      go_ret2
      exact NewPost.no hr.out K2
    by_cases h4 : 1048576 < n
    · have hr : Hid (newF st names values = (none, 181)) := by unfold Hid; rw [HN5.out, if_neg (by omega), if_pos h4]
      go_wp2_with (fail)
      go_ret2
      exact NewPost.no hr.out K2
    have hr : Hid (newF st names values = (some { rdNil with state := if n = 0 then 11 else 0, size := n, left := n }, 0)) := by unfold Hid; rw [HN5.out, if_neg (by omega), if_neg h4]
    clear HN5
    by_cases h5 : n = 0
    · have hb5 : (n == 0) = true := by simp [h5]
      rw [if_pos h5] at hr
      have H5 := Lib.hid h5
      clear h5
      go_wp2_with (fail)
      go_ret2
      exact NewPost.yes hr.out Z2 (rdAt_new _ { rdNil with state := 11, size := n, left := n }) (K2.alloc _)
    · have hb5 : (n == 0) = false := by simpa using h5
      rw [if_neg h5] at hr
      have H5 := Lib.hid h5
      clear h5
      go_wp2_with (fail)
      go_ret2
      exact NewPost.yes hr.out Z2 (rdAt_new _ { rdNil with state := 0, size := n, left := n }) (K2.alloc _)
  have h2' : ¬ (0 : Int) < ncl := by omega
  have hr : Hid (newF st names values = (some { rdNil with state := 1, size := -1 }, 0)) := by unfold Hid; rw [HN4.out, if_neg h2]
  clear HN4 h2
  go_wp2_with (fail)
  go_ret2
  exact NewPost.yes hr.out Z2 (rdAt_new _ { rdNil with state := 1, size := -1 }) (K2.alloc _)
end BD
end
section
namespace BD
/-! ### The statements' own helpers -/
def HeadPost (w : World) (names values : List (List UInt8)) (e : Ending) (w' : World) : Prop := ∃ nv vv, e = .returned (.agg #[I 200, nv, vv]) ∧ StrsAt w' nv names ∧ StrsAt w' vv values ∧ Kept [] w w'
theorem strsAt_nil (w : World) : StrsAt w (.slice none 0 0) [] := ⟨none, 0, rfl, by simp, fun h => absurd rfl h⟩
theorem strsAt_one (w : World) (b : Nat) (x : List UInt8) (h : w.cell? ⟨b, 0, none⟩ = some (S x)) : StrsAt w (.slice (some ⟨b, 0, none⟩) 1 1) [x] :=
  ⟨_, 1, rfl, by simp, fun _ => ⟨b, 0, rfl, fun i hi => by
    have h0 : i = 0 := by simpa using hi
    subst h0
    exact h⟩⟩
theorem new_yes (st : Int) (nv vv : Value) (names values : List (List UInt8)) (w : World) (hn : StrsAt w nv names) (hv : StrsAt w vv values) (hT : Tabs w) (r : Rd) (h : newF st names values = (some r, 0)) :
    Calls Tryz.prog 60 #[.agg #[I st, nv, vv]] w fun e w' => ∃ b, w.heap.size ≤ b ∧ e = .returned (.tuple #[Ptr b, I 0]) ∧ RdAt w' b r ∧ Kept [] w w' :=
  (new_any st nv vv names values w hn hv hT).mono fun e w' hp => by
    unfold NewPost at hp; rw [h] at hp
    obtain ⟨⟨b, h1, h2, h3⟩, h4⟩ := hp
    exact ⟨b, h1, h2, h3, h4⟩
theorem new_no (st : Int) (nv vv : Value) (names values : List (List UInt8)) (w : World) (hn : StrsAt w nv names) (hv : StrsAt w vv values) (hT : Tabs w) (k : Int) (h : newF st names values = (none, k)) :
    Calls Tryz.prog 60 #[.agg #[I st, nv, vv]] w fun e w' => e = .returned (.tuple #[.pointer none, I k]) ∧ Kept [] w w' :=
  (new_any st nv vv names values w hn hv hT).mono fun e w' hp => by
    unfold NewPost at hp; rw [h] at hp
    exact hp
theorem write_as (b : Nat) (l : List UInt8) (r r' : Rd) (o : List UInt8) (k : Int) (w : World) (h : RdAt w b r) (hi : r.Ok) (hn : r.rest.length + l.length ≤ 1000000000) (hw : writeF r l = (r', o, k)) :
    Calls Tryz.prog 31 #[Ptr b, S l] w fun e w' => e = .returned (.tuple #[S o, I k]) ∧ RdAt w' b r' ∧ Kept [b] w w' :=
  (write_any b l r w h hi hn).mono fun e w' hp => by
    unfold GoesPost at hp; rw [hw] at hp; exact hp
theorem inv_ok {r : Rd} (h : r.Inv) (hs : 0 ≤ r.state ∧ r.state ≤ 11) : r.Ok := fun _ => ⟨h, hs⟩
def rdC : Rd := { rdNil with state := 2, size := -1 }
def rdS : Rd := { rdNil with state := 0, size := 2, left := 2 }
def rdO : Rd := { rdNil with state := 1, size := -1 }
theorem rdC_ok : rdC.Ok := inv_ok (by constructor <;> decide) (by decide)
theorem rdS_ok : rdS.Ok := inv_ok (by constructor <;> decide) (by decide)
theorem rdO_ok : rdO.Ok := inv_ok (by constructor <;> decide) (by decide)
def rdC' : Rd := { rdC with state := 11, told := 3, rest := [120] }
def rdS' : Rd := { rdS with state := 11, left := 0, told := 2, rest := [99] }
def rdO' : Rd := { rdO with told := 2 }
theorem newC : newF 200 [teName] [[67, 104, 117, 110, 107, 101, 100]] = (some rdC, 0) := by rfl
theorem newS : newF 200 [clName] [[50]] = (some rdS, 0) := by rfl
theorem newO : newF 200 [] [] = (some rdO, 0) := by rfl
theorem newX : newF 200 [clName] [[120]] = (none, 180) := by rfl
theorem writeC : writeF rdC [51, 13, 10, 97, 98, 99, 13, 10, 48, 13, 10, 13, 10, 120] = (rdC', [97, 98, 99], 0) := by rfl
theorem writeS : writeF rdS [97, 98, 99] = (rdS', [97, 98], 0) := by rfl
theorem writeO : writeF rdO [120, 121] = (rdO', [120, 121], 0) := by rfl
end BD
end
section
namespace BD
theorem Kept.new {a b c : World} {S' : List Nat} (h : Kept [] a b) (k : Kept S' b c) (hs : ∀ x ∈ S', a.heap.size ≤ x) : Kept [] a c := h.trans k fun x hx => .inr (hs x hx)
theorem Kept.new1 {a b c : World} {x : Nat} (h : Kept [] a b) (k : Kept [x] b c) (hs : a.heap.size ≤ x) : Kept [] a c := h.new k fun y hy => by simp at hy; omega
theorem RdAt.kept {S' : List Nat} {w w' : World} {b : Nat} {r : Rd} (h : RdAt w b r) (k : Kept S' w w') (hb : b ∉ S') : RdAt w' b r := k.at h hb
end BD
end
section
namespace BD
theorem i64_mask (n : Int) (m : Int) (j : Nat) (hj : j ≤ 40) (hm : (BitVec.ofInt 64 m).toNat = 2 ^ j - 1) : bits .and .i64 n m = n % ((2 ^ j : Nat) : Int) := by
  have key : (BitVec.ofInt 64 n &&& BitVec.ofInt 64 m).toNat = (n % ((2 ^ 64 : Nat) : Int)).toNat % 2 ^ j := by
    rw [BitVec.toNat_and, BitVec.toNat_ofInt, hm, Nat.and_two_pow_sub_one_eq_mod]
  show IntKind.i64.wrap ((BitVec.ofInt 64 n &&& BitVec.ofInt 64 m).toNat : Nat) = n % ((2 ^ j : Nat) : Int)
  have hp : (2 ^ 64 : Nat) = 2 ^ j * 2 ^ (64 - j) := by rw [← Nat.pow_add]; congr 1; omega
  have hlt : (n % ((2 ^ 64 : Nat) : Int)).toNat % 2 ^ j < 2 ^ 40 := Nat.lt_of_lt_of_le (Nat.mod_lt _ (Nat.two_pow_pos j)) (Nat.pow_le_pow_right (by decide) hj)
  have hv : (((n % ((2 ^ 64 : Nat) : Int)).toNat % 2 ^ j : Nat) : Int) = n % ((2 ^ j : Nat) : Int) := by
    rw [Int.natCast_emod, Int.toNat_of_nonneg (Int.emod_nonneg _ (by decide)), hp, Int.natCast_mul, Int.emod_emod_of_dvd]
    exact Int.dvd_mul_right _ _
  rw [key, IntKind.wrap_i64, ← hv]
  omega
@[go_sem] theorem i64_and1023 (n : Int) : bits .and .i64 n 1023 = n % 1024 := i64_mask n 1023 10 (by decide) (by decide)
@[go_sem] theorem i64_and63 (n : Int) : bits .and .i64 n 63 = n % 64 := i64_mask n 63 6 (by decide) (by decide)
@[go_sem] theorem i64_and31 (n : Int) : bits .and .i64 n 31 = n % 32 := i64_mask n 31 5 (by decide) (by decide)
def IntsAt (w : World) (v : Value) (zs : List Int) : Prop :=
  ∃ (p : Option Addr) (cap : Nat), v = .slice p zs.length cap ∧ zs.length ≤ 9223372036854775807 ∧ (∀ z ∈ zs, -9223372036854775808 ≤ z ∧ z ≤ 9223372036854775807) ∧ (zs ≠ [] → ∃ b off, p = some ⟨b, off, none⟩ ∧ ∀ (i : Nat) (h : i < zs.length), w.cell? ⟨b, off + i, none⟩ = some (I zs[i]))
theorem IntsAt.kept {w w' : World} {v : Value} {zs : List Int} (h : IntsAt w v zs) (k : Kept [] w w') : IntsAt w' v zs := by
  obtain ⟨p, cap, hv, hl, hz, hc⟩ := h
  refine ⟨p, cap, hv, hl, hz, fun hne => ?_⟩
  obtain ⟨b, off, hp, hcell⟩ := hc hne
  exact ⟨b, off, hp, fun i hi => by rw [k.cell (World.block_lt_of_cell? w _ (hcell i hi)) (by simp)]; exact hcell i hi⟩
theorem feeds_e {r : Rd} {l : List UInt8} {r' : Rd} {o : List UInt8} {k : Int} (h : feeds r l = (r', o, k)) : r'.e = r.e ∧ r'.size = r.size := by
  have := keeps_feeds l r; rw [h] at this; exact ⟨this.2, this.1⟩
theorem write_ok {r r' : Rd} {l o : List UInt8} (he : r.e = 0) (h : feeds r l = (r', o, 0)) : writeF r l = (r', o, 0) := by
  have h1 := (feeds_e h).1
  unfold writeF goesF
  rw [if_pos he, h]
  simp only [if_true]
  cases r'; simp at h1 ⊢; rw [h1, he]
theorem write_err {r r' : Rd} {l o : List UInt8} {k : Int} (he : r.e = 0) (h : feeds r l = (r', o, k)) (hk : k ≠ 0) : writeF r l = ({ r' with told := r.told, e := k }, [], k) := by
  unfold writeF goesF
  rw [if_pos he, h]
  simp [hk]
/-- What a reader's bytes so far make of it. -/
structure Fed (R0 : Rd) (pre : List UInt8) (r : Rd) (o : List UInt8) : Prop where
  eq : feeds R0 pre = (r, o, 0)
theorem fed_err {R0 r : Rd} {pre o : List UInt8} (h : feeds R0 pre = (r, o, 0)) (l t : List UInt8) {k : Int} (hk : (feeds r l).2.2 = k) (hne : k ≠ 0) : (feeds R0 (pre ++ l ++ t)).2.2 = k := by
  have h1 : feeds r l = ((feeds r l).1, (feeds r l).2.1, k) := by rw [← hk]
  have h2 := feeds_go h h1
  rw [feeds_append, h2]
  simp [hne]
theorem newF_cases (st : Int) (names values : List (List UInt8)) :
    (∃ k, newF st names values = (none, k) ∧ (k = 180 ∨ k = 181)) ∨ ∃ r, newF st names values = (some r, 0) ∧ r.Inv ∧ (0 ≤ r.state ∧ r.state ≤ 11) ∧ r.e = 0 ∧ r.rest = [] ∧ r.told = 0 ∧ (r.size = -1 ∨ 0 ≤ r.size ∧ (r.state = 0 ∨ r.state = 11) ∧ r.left = r.size) := by
  have plain : ∀ (a b : Int), (a = 11 ∨ a = 2 ∨ a = 1) → ({ rdNil with state := a, size := b } : Rd).Inv := by
    intro a b h
    refine ⟨by simp [rdNil], by simp [rdNil], by simp [rdNil], by simp [rdNil], by simp [rdNil], by simp [rdNil], by simp [rdNil], by simp [rdNil], fun _ => ⟨by simp [rdNil], by simp [rdNil, lim]⟩, ?_, ?_, ?_⟩ <;> simp only <;> intro h2 <;> omega
  unfold newF
  by_cases h1 : st < 200 ∨ st = 204 ∨ st = 304
  · rw [if_pos h1]; exact .inr ⟨_, rfl, plain 11 0 (.inl rfl), by simp, rfl, rfl, rfl, .inr (by simp [rdNil])⟩
  rw [if_neg h1]
  by_cases h2 : 0 < (getF names values teName).2
  · rw [if_pos h2]
    split
    · exact .inl ⟨180, rfl, .inl rfl⟩
    · exact .inr ⟨_, rfl, plain 2 (-1) (.inr (.inl rfl)), by simp, rfl, rfl, rfl, .inl rfl⟩
  rw [if_neg h2]
  by_cases h3 : 0 < (getF names values clName).2
  · rw [if_pos h3]
    by_cases h4 : 1 < (getF names values clName).2 ∨ lengthF (getF names values clName).1 < 0
    · rw [if_pos h4]; exact .inl ⟨180, rfl, .inl rfl⟩
    rw [if_neg h4]
    by_cases h5 : 1048576 < lengthF (getF names values clName).1
    · rw [if_pos h5]; exact .inl ⟨181, rfl, .inr rfl⟩
    rw [if_neg h5]
    generalize lengthF (getF names values clName).1 = n at *
    refine .inr ⟨_, rfl, ?_, ?_, rfl, rfl, rfl, .inr ⟨by simp only; omega, by simp only; split <;> simp, rfl⟩⟩
    · refine ⟨by simp [rdNil], by simp [rdNil], by simp [rdNil], by simp [rdNil], by simp only; omega, by simp only; omega, by simp [rdNil], by simp [rdNil], ?_, ?_, ?_, ?_⟩
      · simp only; split <;> (intro h; omega)
      · simp only; split
        · intro h; omega
        · intro h; simp only [rdNil]; omega
      · simp only; split <;> (intro h; omega)
      · simp only; split <;> (intro h; omega)
    · simp only; split <;> omega
  rw [if_neg h3]
  exact .inr ⟨_, rfl, plain 1 (-1) (.inr (.inr rfl)), by simp, rfl, rfl, rfl, .inl rfl⟩
theorem rest_feed (r : Rd) (c : UInt8) : (feed r c).1.rest.length ≤ r.rest.length + 1 := by
  have k := (keeps_byte r c).2.2.2
  unfold feed
  split
  · simp
  split
  · split <;> simp
  split
  · simp
  split
  · simp
  · simp only; rw [k]; omega
theorem rest_feeds (l : List UInt8) : ∀ r : Rd, (feeds r l).1.rest.length ≤ r.rest.length + l.length := by
  induction l with
  | nil => intro r; simp [feeds]
  | cons c l ih =>
    intro r
    have h1 := rest_feed r c
    have h2 := ih (feed r c).1
    simp only [feeds, List.length_cons]
    split
    · split <;> (simp only; omega)
    · simp only; omega
theorem out_feeds (l : List UInt8) : ∀ r : Rd, (feeds r l).2.1.length ≤ l.length := by
  induction l with
  | nil => intro r; simp [feeds]
  | cons c l ih =>
    intro r
    have h2 := ih (feed r c).1
    have h1 : (feed r c).2.1.length ≤ 1 := by
      unfold feed
      (repeat' split) <;> simp
    simp only [feeds, List.length_cons]
    split
    · split
      · simp only [List.length_append]; omega
      · simp
    · simp
def LawPost (w : World) (e : Ending) (w' : World) : Prop := e = .returned (.bool true) ∧ Kept [] w w'
end BD
end
end Go.Proofs.YtgdncdhalnijcaaGreatDoor
