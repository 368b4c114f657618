/- Walks and lemmas on the program of this seat, used by its statements; each theorem bears its own conditions. -/
import Derived.Test.YtgdncdhalnijcaaDoorRdK
namespace Go.Proofs.YtgdncdhalnijcaaDoor
open Go.RowKit
set_option linter.unusedVariables false
set_option linter.unusedSimpArgs false
namespace BD
def FoldJ (s : List UInt8) (w0 : World) (a : Act) (w : World) : Prop :=
  w = w0 ∧ ∃ i : Nat, (i < s.length ∧ i < 7 ∧ (s.take i).map lowerB = chunked.take i ∧ ∃ c, s[i]? = some c ∧ 128 ≤ c.toNat) ∧ ∃ u2 u3 u4 u6 u7 u8 u9 u10 u11 u12 u13 u14 u15 u16 u17 u18 u19 u20 u21 u22 u23 u24 u25 u26 u27 u28 u29 u30 u31 u32 u33 u34 u35 u36 u37 u38 u39 u40 u41 u42 u43 u44 u45 u46 u47 u48 u49 u50 u51 u52 u53 u54 u55 u56 u57 u58 u59 u60 u61 u62 u63 u64 u65 u66 u67 u68 u69 u70 u71 u72 u73 u74 u75 u76 u77 u78 u79 u80 u81 u82 u83 u84 u85 u86 u87 u88 u89 u90 u91 u92 u93 u94 u95 u96 u97 u98 u99 u100 u101 u102 u103 u104 u105 u106 u107 u108 u109 u110 u111 u112 u113 u114 u115 u116 u117 u118 u119 u120 u121 u122 : Value, a = ⟨#[S s, S chunked, u2, u3, u4, I i, u6, u7, u8, u9, u10, u11, u12, u13, u14, u15, u16, u17, u18, u19, u20, u21, u22, u23, u24, u25, u26, u27, u28, u29, u30, u31, u32, u33, u34, u35, u36, u37, u38, u39, u40, u41, u42, u43, u44, u45, u46, u47, u48, u49, u50, u51, u52, u53, u54, u55, u56, u57, u58, u59, u60, u61, u62, u63, u64, u65, u66, u67, u68, u69, u70, u71, u72, u73, u74, u75, u76, u77, u78, u79, u80, u81, u82, u83, u84, u85, u86, u87, u88, u89, u90, u91, u92, u93, u94, u95, u96, u97, u98, u99, u100, u101, u102, u103, u104, u105, u106, u107, u108, u109, u110, u111, u112, u113, u114, u115, u116, u117, u118, u119, u120, u121, u122], []⟩
theorem kelvin_size (s : ByteArray) (pos : Nat) (h : (Utf8.decode s pos).1 = 8490) : (Utf8.decode s pos).2 = 3 := by
  have hb : ∀ k, (s.get! (pos + k)).toNat < 256 := fun k => (s.get! (pos + k)).toNat_lt
  have h0 := hb 0; have h1 := hb 1; have h2 := hb 2; have h3 := hb 3
  revert h
  simp only [Utf8.decode, Utf8.runeError]
  repeat' split
  all_goals intro h
  all_goals simp_all
  all_goals omega
theorem chunked_ok : ∀ j, (h : j < chunked.length) → 97 ≤ chunked[j].toNat ∧ chunked[j].toNat ≤ 122 ∧ chunked[j].toNat ≠ 115 := by decide
theorem decode_wide (s : ByteArray) (pos : Nat) : 1 ≤ (Utf8.decode s pos).2 := by
  simp only [Utf8.decode, Utf8.runeError]
  repeat' split
  all_goals simp
theorem not_chunked (s : List UInt8) (i : Nat) (c : UInt8) (h : s[i]? = some c) (hc : 128 ≤ c.toNat) (hi : i < 7) : isChunked s = false := by
  cases hch : isChunked s with
  | false => rfl
  | true =>
    exfalso
    have h1 : s.map lowerB = chunked := by simpa [isChunked] using hch
    have h2 := congrArg (fun l => l[i]?) h1
    simp only [List.getElem?_map, h, Option.map_some] at h2
    have hl : i < chunked.length := hi
    rw [List.getElem?_eq_getElem hl] at h2
    have h3 := Option.some.inj h2
    have h4 := chunked_ok i hl
    rw [← h3] at h4
    unfold lowerB at h4
    rw [if_neg (by omega)] at h4
    omega
theorem decode_fits (s : ByteArray) (pos : Nat) (h : pos < s.size) : pos + (Utf8.decode s pos).2 ≤ s.size := by
  simp only [Utf8.decode, Utf8.runeError]
  repeat' split
  all_goals simp_all
  all_goals omega
theorem lowerB_eq (c t : UInt8) : lowerB c = t ↔ (65 ≤ c.toNat ∧ c.toNat ≤ 90 ∧ c.toNat + 32 = t.toNat) ∨ (¬ (65 ≤ c.toNat ∧ c.toNat ≤ 90) ∧ c.toNat = t.toNat) := by
  have hc := c.toNat_lt
  unfold lowerB
  by_cases h : 65 ≤ c.toNat ∧ c.toNat ≤ 90
  · rw [if_pos h]
    have e : (c + 32).toNat = c.toNat + 32 := by rw [UInt8.toNat_add]; have : (32 : UInt8).toNat = 32 := rfl; omega
    constructor
    · intro he; left; rw [← he, e]; omega
    · intro he; apply UInt8.toNat_inj.1; rw [e]; omega
  · rw [if_neg h]
    constructor
    · intro he; right; rw [he] at h ⊢; exact ⟨h, rfl⟩
    · intro he; apply UInt8.toNat_inj.1; omega
theorem sfold_low (t : Nat) (w : World) (h1 : 97 ≤ t) (h2 : t ≤ 122) (h3 : t ≠ 107) (h4 : t ≠ 115) (hT : Tabs w) : Calls Tryd.prog 28 #[.int .i32 t] w fun e w' => e = .returned (.int .i32 ((t : Int) - 32)) ∧ w = w' := by
  have e : foldOf t = (t : Int) - 32 := by unfold foldOf; rw [if_neg (by omega), if_neg (by omega), if_neg h3, if_neg h4, if_neg (by omega), if_pos ⟨h1, h2⟩]
  rw [← e]; exact sfold_ascii t w (by omega) hT
theorem sfold_up (t : Nat) (w : World) (h1 : 97 ≤ t) (h2 : t ≤ 122) (h3 : t ≠ 107) (h4 : t ≠ 115) (hT : Tabs w) : Calls Tryd.prog 28 #[.int .i32 ((t : Int) - 32)] w fun e w' => e = .returned (.int .i32 t) ∧ w = w' := by
  obtain ⟨u, rfl⟩ : ∃ u, t = u + 32 := ⟨t - 32, by omega⟩
  have e : foldOf u = ((u + 32 : Nat) : Int) := by unfold foldOf; rw [if_neg (by omega), if_neg (by omega), if_neg (by omega), if_neg (by omega), if_pos (by omega)]; omega
  have e2 : ((u + 32 : Nat) : Int) - 32 = (u : Int) := by omega
  rw [← e, show foldOf u - 32 = (u : Int) from by rw [e]; omega]; exact sfold_ascii u w (by omega) hT
theorem sfold_k (w : World) (hT : Tabs w) : Calls Tryd.prog 28 #[.int .i32 107] w fun e w' => e = .returned (.int .i32 8490) ∧ w = w' := sfold_ascii 107 w (by decide) hT
theorem sfold_K (w : World) (hT : Tabs w) : Calls Tryd.prog 28 #[.int .i32 75] w fun e w' => e = .returned (.int .i32 107) ∧ w = w' := sfold_ascii 75 w (by decide) hT
set_option maxRecDepth 1000000 in
set_option maxHeartbeats 2000000 in
theorem fold_any (s : List UInt8) (w : World) (hT : Tabs w) : Calls Tryd.prog 17 #[S s, S chunked] w (FoldPost s w) := by
  obtain ⟨M, hM, hM1, hM2, hM3⟩ : ∃ M : Nat, min (s.length : Int) 7 = (M : Int) ∧ M ≤ s.length ∧ M ≤ 7 ∧ (M = s.length ∨ M = 7) := by
    rw [Int.min_def]
    split
    · exact ⟨s.length, rfl, Nat.le_refl _, by omega, .inl rfl⟩
    · exact ⟨7, rfl, by omega, Nat.le_refl _, .inr rfl⟩
  have hcl : chunked.length = 7 := rfl
  have hM' : min (s.length : Int) ((7 : Nat) : Int) = (M : Int) := hM
  go_enter Tryd.func17, Tryd.ntmps17
  go_wp2_with (fail)
  refine wp_scope_jumps 0 (FoldJ s w) (fun _ _ => 0) rfl ?_ ?_
  · have HT := Lib.hid hT
    clear hT
    go_wp2_with (fail)
    clear hM hM'
    go_loop [5] (fun x => ∃ i : Nat, i ≤ M ∧ x = I i ∧ (s.take i).map lowerB = chunked.take i) (fun x => M - (intOf x).toNat)
    case atStart => exact ⟨0, by omega, rfl, rfl⟩
    case round =>
      obtain ⟨i, hi, rfl, hp⟩ := hrel
      by_cases hlt : i < M
      · have hls : i < s.length := by omega
        have hl7 : i < 7 := by omega
        obtain ⟨c, hc⟩ : ∃ c, s[i] = c := ⟨_, rfl⟩
        have hlc : i < chunked.length := by omega
        obtain ⟨t, ht⟩ : ∃ t, ∀ h : i < chunked.length, chunked[i]'h = t := ⟨chunked[i]'hlc, fun _ => rfl⟩
        obtain ⟨ht1, ht2⟩ : 97 ≤ t.toNat ∧ t.toNat ≤ 122 := by
          rw [← ht hlc]
          have : ∀ j, (h : j < 7) → 97 ≤ chunked[j].toNat ∧ chunked[j].toNat ≤ 122 := by decide
          exact this i hl7
        have hcl' : c.toNat < 256 := c.toNat_lt
        have hor : bits .or .u8 (c.toNat : Int) (t.toNat : Int) = ((c.toNat ||| t.toNat : Nat) : Int) := u8_or_nat _ _ (by omega) (by omega)
        have hca : s[i]? = some c := by rw [List.getElem?_eq_getElem hls, hc]
        have hno : lowerB c ≠ t → isChunked s = false := by
          intro hne
          cases hch : isChunked s with
          | false => rfl
          | true =>
            exfalso; apply hne
            have h1 : s.map lowerB = chunked := by simpa [isChunked] using hch
            have h2 := congrArg (fun l => l[i]?) h1
            simp only [List.getElem?_map, hca, Option.map_some] at h2
            rw [List.getElem?_eq_getElem hlc, ht hlc] at h2
            exact Option.some.inj h2
        have hyes : lowerB c = t → (s.take (i + 1)).map lowerB = chunked.take (i + 1) := by
          intro he
          rw [List.take_succ_eq_append_getElem hls, List.take_succ_eq_append_getElem hlc, List.map_append, hp, hc, ht hlc, List.map_cons, he]
          rfl
        have HN := Lib.hid hno
        have HY := Lib.hid hyes
        have HP := Lib.hid hp
        have HCA := Lib.hid hca
        clear hno hyes hp hca
        by_cases h128 : 128 ≤ c.toNat
        · have hor128 : (128 : Int) ≤ ((c.toNat ||| t.toNat : Nat) : Int) := by have := Nat.left_le_or (n := c.toNat) (m := t.toNat); omega
          go_wp2_with (fail)
          go_step3
          exact ⟨rfl, rfl, i, ⟨hls, hl7, HP.out, c, HCA.out, h128⟩, _, _, _, _, _, _, _, _, _, _, _, _, _, _, _, _, _, _, _, _, _, _, _, _, _, _, _, _, _, _, _, _, _, _, _, _, _, _, _, _, _, _, _, _, _, _, _, _, _, _, _, _, _, _, _, _, _, _, _, _, _, _, _, _, _, _, _, _, _, _, _, _, _, _, _, _, _, _, _, _, _, _, _, _, _, _, _, _, _, _, _, _, _, _, _, _, _, _, _, _, _, _, _, _, _, _, _, _, _, _, _, _, _, _, _, _, _, _, _, _, rfl⟩
        · have hor128 : ¬ ((128 : Int) ≤ ((c.toNat ||| t.toNat : Nat) : Int)) := by have := Nat.or_lt_two_pow (n := 7) (show c.toNat < 2 ^ 7 by omega) (show t.toNat < 2 ^ 7 by omega); omega
          go_wp2_with (fail)
          all_goals (try simp only [beq_iff_eq, beq_eq_false_iff_ne, ne_eq] at *)
          all_goals first
            | (refine ⟨⟨i + 1, by omega, by go_num, HY.out ((lowerB_eq c t).2 (by omega))⟩, by simp [intOf]; omega⟩)
            | (simp only [Exit.jump]
               go_ret
               exact ⟨false, rfl, fun _ => (HN.out (fun he => by have := (lowerB_eq c t).1 he; omega)).symm, Kept.refl _ _⟩)
      · have hiM : i = M := by omega
        subst hiM
        have hfin : s.length = 7 → isChunked s = true := by
          intro h7
          have h1 : s.take i = s := List.take_of_length_le (by omega)
          have h2 : chunked.take i = chunked := List.take_of_length_le (by omega)
          rw [h1, h2] at hp
          simp [isChunked, hp]
        have HF := Lib.hid hfin
        clear hfin hp
        go_wp2_with (fail)
        simp only [Exit.jump]
        go_ret
        refine ⟨_, rfl, fun h7 => ?_, Kept.refl _ _⟩
        rw [HF.out h7]
        simp; omega
  · rintro a' w' ⟨rfl, i, ⟨hi1, hi2, hi3, c, hc, hc1⟩, hJ⟩
    obtain ⟨u2, hJ⟩ := hJ
    obtain ⟨u3, hJ⟩ := hJ
    obtain ⟨u4, hJ⟩ := hJ
    obtain ⟨u6, hJ⟩ := hJ
    obtain ⟨u7, hJ⟩ := hJ
    obtain ⟨u8, hJ⟩ := hJ
    obtain ⟨u9, hJ⟩ := hJ
    obtain ⟨u10, hJ⟩ := hJ
    obtain ⟨u11, hJ⟩ := hJ
    obtain ⟨u12, hJ⟩ := hJ
    obtain ⟨u13, hJ⟩ := hJ
    obtain ⟨u14, hJ⟩ := hJ
    obtain ⟨u15, hJ⟩ := hJ
    obtain ⟨u16, hJ⟩ := hJ
    obtain ⟨u17, hJ⟩ := hJ
    obtain ⟨u18, hJ⟩ := hJ
    obtain ⟨u19, hJ⟩ := hJ
    obtain ⟨u20, hJ⟩ := hJ
    obtain ⟨u21, hJ⟩ := hJ
    obtain ⟨u22, hJ⟩ := hJ
    obtain ⟨u23, hJ⟩ := hJ
    obtain ⟨u24, hJ⟩ := hJ
    obtain ⟨u25, hJ⟩ := hJ
    obtain ⟨u26, hJ⟩ := hJ
    obtain ⟨u27, hJ⟩ := hJ
    obtain ⟨u28, hJ⟩ := hJ
    obtain ⟨u29, hJ⟩ := hJ
    obtain ⟨u30, hJ⟩ := hJ
    obtain ⟨u31, hJ⟩ := hJ
    obtain ⟨u32, hJ⟩ := hJ
    obtain ⟨u33, hJ⟩ := hJ
    obtain ⟨u34, hJ⟩ := hJ
    obtain ⟨u35, hJ⟩ := hJ
    obtain ⟨u36, hJ⟩ := hJ
    obtain ⟨u37, hJ⟩ := hJ
    obtain ⟨u38, hJ⟩ := hJ
    obtain ⟨u39, hJ⟩ := hJ
    obtain ⟨u40, hJ⟩ := hJ
    obtain ⟨u41, hJ⟩ := hJ
    obtain ⟨u42, hJ⟩ := hJ
    obtain ⟨u43, hJ⟩ := hJ
    obtain ⟨u44, hJ⟩ := hJ
    obtain ⟨u45, hJ⟩ := hJ
    obtain ⟨u46, hJ⟩ := hJ
    obtain ⟨u47, hJ⟩ := hJ
    obtain ⟨u48, hJ⟩ := hJ
    obtain ⟨u49, hJ⟩ := hJ
    obtain ⟨u50, hJ⟩ := hJ
    obtain ⟨u51, hJ⟩ := hJ
    obtain ⟨u52, hJ⟩ := hJ
    obtain ⟨u53, hJ⟩ := hJ
    obtain ⟨u54, hJ⟩ := hJ
    obtain ⟨u55, hJ⟩ := hJ
    obtain ⟨u56, hJ⟩ := hJ
    obtain ⟨u57, hJ⟩ := hJ
    obtain ⟨u58, hJ⟩ := hJ
    obtain ⟨u59, hJ⟩ := hJ
    obtain ⟨u60, hJ⟩ := hJ
    obtain ⟨u61, hJ⟩ := hJ
    obtain ⟨u62, hJ⟩ := hJ
    obtain ⟨u63, hJ⟩ := hJ
    obtain ⟨u64, hJ⟩ := hJ
    obtain ⟨u65, hJ⟩ := hJ
    obtain ⟨u66, hJ⟩ := hJ
    obtain ⟨u67, hJ⟩ := hJ
    obtain ⟨u68, hJ⟩ := hJ
    obtain ⟨u69, hJ⟩ := hJ
    obtain ⟨u70, hJ⟩ := hJ
    obtain ⟨u71, hJ⟩ := hJ
    obtain ⟨u72, hJ⟩ := hJ
    obtain ⟨u73, hJ⟩ := hJ
    obtain ⟨u74, hJ⟩ := hJ
    obtain ⟨u75, hJ⟩ := hJ
    obtain ⟨u76, hJ⟩ := hJ
    obtain ⟨u77, hJ⟩ := hJ
    obtain ⟨u78, hJ⟩ := hJ
    obtain ⟨u79, hJ⟩ := hJ
    obtain ⟨u80, hJ⟩ := hJ
    obtain ⟨u81, hJ⟩ := hJ
    obtain ⟨u82, hJ⟩ := hJ
    obtain ⟨u83, hJ⟩ := hJ
    obtain ⟨u84, hJ⟩ := hJ
    obtain ⟨u85, hJ⟩ := hJ
    obtain ⟨u86, hJ⟩ := hJ
    obtain ⟨u87, hJ⟩ := hJ
    obtain ⟨u88, hJ⟩ := hJ
    obtain ⟨u89, hJ⟩ := hJ
    obtain ⟨u90, hJ⟩ := hJ
    obtain ⟨u91, hJ⟩ := hJ
    obtain ⟨u92, hJ⟩ := hJ
    obtain ⟨u93, hJ⟩ := hJ
    obtain ⟨u94, hJ⟩ := hJ
    obtain ⟨u95, hJ⟩ := hJ
    obtain ⟨u96, hJ⟩ := hJ
    obtain ⟨u97, hJ⟩ := hJ
    obtain ⟨u98, hJ⟩ := hJ
    obtain ⟨u99, hJ⟩ := hJ
    obtain ⟨u100, hJ⟩ := hJ
    obtain ⟨u101, hJ⟩ := hJ
    obtain ⟨u102, hJ⟩ := hJ
    obtain ⟨u103, hJ⟩ := hJ
    obtain ⟨u104, hJ⟩ := hJ
    obtain ⟨u105, hJ⟩ := hJ
    obtain ⟨u106, hJ⟩ := hJ
    obtain ⟨u107, hJ⟩ := hJ
    obtain ⟨u108, hJ⟩ := hJ
    obtain ⟨u109, hJ⟩ := hJ
    obtain ⟨u110, hJ⟩ := hJ
    obtain ⟨u111, hJ⟩ := hJ
    obtain ⟨u112, hJ⟩ := hJ
    obtain ⟨u113, hJ⟩ := hJ
    obtain ⟨u114, hJ⟩ := hJ
    obtain ⟨u115, hJ⟩ := hJ
    obtain ⟨u116, hJ⟩ := hJ
    obtain ⟨u117, hJ⟩ := hJ
    obtain ⟨u118, hJ⟩ := hJ
    obtain ⟨u119, hJ⟩ := hJ
    obtain ⟨u120, hJ⟩ := hJ
    obtain ⟨u121, hJ⟩ := hJ
    obtain ⟨u122, hJ⟩ := hJ
    subst hJ
    have HT0 := Lib.hid hT
    have hh0 : (w'.alloc (.stringIter ⟨(s.drop i).toArray⟩ 0)).heap[w'.heap.size]? = some (.stringIter ⟨(s.drop i).toArray⟩ 0) := by
      show (w'.heap.push _)[w'.heap.size]? = _
      simp
    clear hM hM' hT
    have htk : chunked.take 7 = chunked := rfl
    obtain ⟨X, hX⟩ : ∃ X : ByteArray, X = ⟨(s.drop i).toArray⟩ := ⟨_, rfl⟩
    have hXs : X.size = s.length - i := by rw [hX]; simp [ByteArray.size]
    have hX0 : 128 ≤ (Utf8.decode X 0).1 := by
      have h0 : 0 < X.size := by omega
      refine (decode_high X 0 h0 ?_).1
      subst hX
      rw [str_get]
      simp [List.getElem?_eq_getElem hi1] at hc ⊢
      rw [hc]; exact hc1
    have HNC := Lib.hid (not_chunked s i c hc hc1 hi2)
    have HX := Lib.hid hX
    have HX0 := Lib.hid hX0
    have HXS := Lib.hid hXs
    have Hhh := Lib.hid hh0
    clear hX0 hXs hh0 hi3 hc hc1
    rw [← hX] at Hhh
    go_wp2_with (fail)
    rw [← HX.out]
    clear hX HX htk
    go_loopw [1] (fun t wr => ∃ j pos : Nat, t = S (chunked.drop j) ∧ wr.heap[w'.heap.size]? = some (.stringIter X pos) ∧ Kept [] w' wr ∧ i ≤ j ∧ j ≤ 7 ∧ ((j = i ∧ pos = 0) ∨ j - i + 2 ≤ pos) ∧ pos ≤ X.size) (fun _ wr => X.size - wr.iterPos w'.heap.size)
    case atStart => exact ⟨i, 0, rfl, Hhh.out, (Kept.refl _ _).alloc _, Nat.le_refl _, by omega, .inl ⟨rfl, rfl⟩, Nat.zero_le _⟩
    case round =>
      obtain ⟨j, pos, rfl, hit, hk, hij, hj7, hpos, hps⟩ := hrel
      by_cases hlt : pos < X.size
      · have hnx := fun ty => Lib.run_next_any_at (P := Tryd.prog) wr w'.heap.size X pos ty hit hlt
        have hr1 := decode_le X pos
        have hr2 := decode_wide X pos
        have hr3 := decode_fits X pos hlt
        have hkel := kelvin_size X pos
        have hlow : (Utf8.decode X pos).1 < 128 → ¬ (j = i ∧ pos = 0) := by
          rintro hl ⟨_, rfl⟩; have := HX0.out; omega
        have hhit := fun p => Lib.iterAt_heap wr w'.heap.size X pos p hit
        have hkk : ∀ p, Kept [] w' (wr.iterAt w'.heap.size X p) := fun p => hk.thenBelow (Lib.below_iterAt (B := w'.heap.size) (Below.refl _ _) (Nat.le_refl _) X p) (Nat.le_refl _)
        have hTT : ∀ p, Tabs (wr.iterAt w'.heap.size X p) := fun p => HT0.out.kept (hkk p)
        have HH := Lib.hid hhit
        have HK := Lib.hid hkk
        have HTT := Lib.hid hTT
        have HIT := Lib.hid hit
        have hip : wr.iterPos w'.heap.size = pos := by unfold World.iterPos; rw [hit]
        have HIP := Lib.hid hip
        clear hhit hkk hTT hip hit
        generalize hr : (Utf8.decode X pos).1 = r at *
        generalize hn : (Utf8.decode X pos).2 = n at *
        have HKE := Lib.hid hkel
        have HLO := Lib.hid hlow
        have HPO := Lib.hid hpos
        clear hkel hlow hpos hr hn
        have hr1' : (r : Int) ≤ 2147483647 := by omega
        by_cases hj : j = 7
        · subst hj
          have hd7 : chunked.drop 7 = [] := rfl
          go_wp2_with (fail)
          simp only [Exit.jump]
          go_ret
          exact ⟨false, rfl, fun _ => HNC.out.symm, HK.out _⟩
        · have hj' : j < 7 := by omega
          have hjc : j < chunked.length := by omega
          obtain ⟨t, htt⟩ : ∃ t, chunked[j]'hjc = t := ⟨_, rfl⟩
          obtain ⟨t1, t2, t3⟩ : 97 ≤ t.toNat ∧ t.toNat ≤ 122 ∧ t.toNat ≠ 115 := by rw [← htt]; exact chunked_ok j hjc
          have hdj : chunked.drop j = t :: chunked.drop (j + 1) := by rw [List.drop_eq_getElem_cons hjc, htt]
          clear htt hjc
          go_wp2_with (fail)
          refine (Tryd.utf8_DecodeRuneInString_ascii ⟨(t :: chunked.drop (j + 1)).toArray⟩ t _ rfl (by omega)).mono ?_
          rintro e w1 ⟨rfl, rfl⟩
          have hsl : (chunked.drop (j + 1)).take (6 - j) = chunked.drop (j + 1) := List.take_of_length_le (by simp; omega)
          have HS := Lib.hid hsl
          clear hsl
          by_cases hrt : r = t.toNat
          · subst hrt
            have hnz := HLO.out (by omega)
            go_wp2_with (fail)
            rw [HS.out]
            have hpo := HPO.out
            exact ⟨⟨j + 1, pos + n, rfl, HH.out _, HK.out _, by omega, by omega, .inr (by omega), by omega⟩, by rw [HIP.out, show (wr.iterAt w'.heap.size X (pos + n)).iterPos w'.heap.size = pos + n from by unfold World.iterPos; rw [HH.out]]; omega⟩
          have hb1 : ((t.toNat : Int) == (r : Int)) = false := by simp; omega
          by_cases hsw : t.toNat < r
          · have hsw' : (t.toNat : Int) < (r : Int) := by omega
            by_cases hasc : r < 128
            · have hasc' : (r : Int) < 128 := by omega
              go_wp2_with (fail)
              simp only [Exit.jump]
              go_ret
              exact ⟨false, rfl, fun _ => HNC.out.symm, HK.out _⟩
            · have hasc' : ¬ (r : Int) < 128 := by omega
              by_cases htk : t.toNat = 107
              · have htk' : (t.toNat : Int) = 107 := by omega
                rw [htk'] at hb1 hsw'
                have hr0 : (128 : Int) ≤ r := by omega
                have HTK := Lib.hid htk
                have HTK' := Lib.hid htk'
                clear htk htk'
                go_wp2_with (fail)
                rw [HTK'.out]
                refine (sfold_k _ (HTT.out _)).mono ?_
                rintro e w2 ⟨rfl, rfl⟩
                by_cases hke : r = 8490
                · have hn3 := HKE.out hke
                  subst hke
                  have HN3 := Lib.hid hn3
                  clear hn3
                  go_wp2_with (fail)
                  go_loop [13] (fun x => x = .int .i32 8490) (fun _ => 0)
                  case atStart => rfl
                  case round =>
                    subst hrel
                    go_wp2_with (fail)
                    rw [HS.out]
                    have hpo := HPO.out
                    have hn3 := HN3.out
                    exact ⟨⟨j + 1, pos + n, rfl, HH.out _, HK.out _, by omega, by omega, .inr (by omega), by omega⟩, by rw [HIP.out, show (wr.iterAt w'.heap.size X (pos + n)).iterPos w'.heap.size = pos + n from by unfold World.iterPos; rw [HH.out]]; omega⟩
                · have hke2 : (r : Int) ≠ 8490 := by omega
                  have hkeb : ((8490 : Int) == (r : Int)) = false := by simp; omega
                  have h107b : ((107 : Int) == (r : Int)) = false := by simp; omega
                  clear hke
                  go_wp2_with (fail)
                  go_loop [13] (fun x => ∃ y : Int, x = .int .i32 y ∧ (y = 8490 ∨ y = 75 ∨ y = 107)) (fun x => if intOf x = 8490 then 2 else if intOf x = 75 then 1 else 0)
                  case atStart => exact ⟨_, rfl, .inl rfl⟩
                  case round =>
                    obtain ⟨y, rfl, hy⟩ := hrel
                    rcases hy with rfl | rfl | rfl
                    · by_cases h84 : (8490 : Int) < r
                      · go_wp2_with (fail)
                        refine (sfold_kelvin _ (HTT.out _)).mono ?_
                        rintro e w3 ⟨rfl, rfl⟩
                        go_wp2_with (fail)
                        exact ⟨⟨75, rfl, .inr (.inl rfl)⟩, by decide⟩
                      · go_wp2_with (fail)
                        simp only [Exit.jump]
                        go_ret
                        exact ⟨false, rfl, fun _ => HNC.out.symm, HK.out _⟩
                    · have h75 : (75 : Int) < r := by omega
                      go_wp2_with (fail)
                      refine (sfold_K _ (HTT.out _)).mono ?_
                      rintro e w3 ⟨rfl, rfl⟩
                      go_wp2_with (fail)
                      exact ⟨⟨107, rfl, .inr (.inr rfl)⟩, by decide⟩
                    · go_wp2_with (fail)
                      simp only [Exit.jump]
                      go_ret
                      exact ⟨false, rfl, fun _ => HNC.out.symm, HK.out _⟩
              · go_wp2_with (fail)
                refine (sfold_low t.toNat _ t1 t2 htk t3 (HTT.out _)).mono ?_
                rintro e w2 ⟨rfl, rfl⟩
                go_wp2_with (fail)
                have hr0 : (128 : Int) ≤ r := by omega
                have ht0 : (97 : Int) ≤ (t.toNat : Int) := by omega
                have ht9 : (t.toNat : Int) ≤ 122 := by omega
                go_loop [13] (fun x => ∃ y : Int, x = .int .i32 y ∧ (y = (t.toNat : Int) - 32 ∨ y = t.toNat)) (fun x => (intOf x - (t.toNat : Int)).natAbs)
                case atStart => exact ⟨_, rfl, .inl rfl⟩
                case round =>
                  obtain ⟨y, rfl, hy⟩ := hrel
                  rcases hy with rfl | rfl
                  · have e1 : (((t.toNat : Int) - 32) != (t.toNat : Int)) = true := by simp; omega
                    have e2 : ((t.toNat : Int) - 32) < (r : Int) := by omega
                    go_wp2_with (fail)
                    refine (sfold_up t.toNat _ t1 t2 htk t3 (HTT.out _)).mono ?_
                    rintro e w3 ⟨rfl, rfl⟩
                    go_wp2_with (fail)
                    exact ⟨⟨t.toNat, rfl, .inr rfl⟩, by simp only [intOf]; omega⟩
                  · go_wp2_with (fail)
                    simp only [Exit.jump]
                    go_ret
                    exact ⟨false, rfl, fun _ => HNC.out.symm, HK.out _⟩
          · have hsw' : ¬ (t.toNat : Int) < (r : Int) := by omega
            have hr8 : (r : Int) < t.toNat := by omega
            have hnz := HLO.out (by omega)
            have HNZ := Lib.hid hnz
            clear hnz
            go_wp2_with (fail)
            all_goals first
              | (simp only [Exit.jump]
                 go_ret
                 exact ⟨false, rfl, fun _ => HNC.out.symm, HK.out _⟩)
              | (rw [HS.out]
                 have hpo := HPO.out
                 have hnz := HNZ.out
                 exact ⟨⟨j + 1, pos + n, rfl, HH.out _, HK.out _, by omega, by omega, .inr (by omega), by omega⟩, by rw [HIP.out, show (wr.iterAt w'.heap.size X (pos + n)).iterPos w'.heap.size = pos + n from by unfold World.iterPos; rw [HH.out]]; omega⟩)
      · have hnx := fun ty => Lib.run_next_end_at (P := Tryd.prog) wr w'.heap.size X pos ty hit hlt
        have HP := Lib.hid hpos
        clear hpos
        go_wp2_with (fail)
        simp only [Exit.jump]
        go_ret
        refine ⟨_, rfl, fun h7 => ?_, hk⟩
        have hp := HP.out
        have hxs := HXS.out
        rw [HNC.out]
        simp
        omega
end BD
end Go.Proofs.YtgdncdhalnijcaaDoor
