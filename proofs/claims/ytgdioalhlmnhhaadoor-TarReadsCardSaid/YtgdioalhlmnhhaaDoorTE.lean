/- Walks and lemmas on the program of this seat, used by its statements; each theorem bears its own conditions. -/
import Derived.Test.YtgdioalhlmnhhaaDoorTD
import Derived.Lib.IndexBytes
import Derived.Handy
namespace Go.Proofs.YtgdioalhlmnhhaaDoor
open Go.RowKit
set_option linter.unusedVariables false
set_option linter.unusedSimpArgs false
/-! ### the reference's Parse -/
theorem tw_take (p : UInt8 → Bool) (l : List UInt8) : l.takeWhile p = l.take (l.takeWhile p).length := by
  induction l with
  | nil => rfl
  | cons c t ih =>
    rw [List.takeWhile_cons]
    split
    · simp only [List.length_cons, List.take_succ_cons]; rw [← ih]
    · rfl
theorem tw_le (p : UInt8 → Bool) (l : List UInt8) : (l.takeWhile p).length ≤ l.length := (List.takeWhile_prefix (l := l) (p := p)).length_le
theorem tw_below (p : UInt8 → Bool) (l : List UInt8) (k : Nat) (h : k < (l.takeWhile p).length) : p (byteAt l k) = true := by
  induction l generalizing k with
  | nil => simp at h
  | cons c t ih =>
    rw [List.takeWhile_cons] at h
    by_cases hc : p c = true
    · rw [if_pos hc] at h
      cases k with
      | zero => simpa [byteAt] using hc
      | succ k => exact ih k (by simpa using h)
    · rw [if_neg hc] at h; simp at h
theorem tw_stop (p : UInt8 → Bool) (l : List UInt8) (h : (l.takeWhile p).length < l.length) : p (byteAt l (l.takeWhile p).length) = false := by
  induction l with
  | nil => simp at h
  | cons c t ih =>
    rw [List.takeWhile_cons] at h ⊢
    by_cases hc : p c = true
    · rw [if_pos hc] at h ⊢
      exact ih (by simpa using h)
    · rw [if_neg hc]
      simpa [byteAt] using hc
def numI : Option Nat → Int
  | none => -1
  | some n => n
theorem rnumber_at (l : List UInt8) (r : Option Nat) (h : TX.numL l = r) (w : World) (hl : l.length ≤ 19) :
    Calls Tryd.prog 55 #[S l] w fun e w' => e = .returned (I (numI r)) ∧ w = w' := by
  have : numR l = numI r := by unfold numR; rw [h]; cases r <;> rfl
  rw [← this]; exact rnumber_any l w hl
set_option maxHeartbeats 8000000 in
set_option maxRecDepth 100000 in
theorem rparse_any (l : List UInt8) (w : World) :
    Calls Tryd.prog 18 #[S l] w fun e w' => e = .returned (VP (TX.parseL l)) ∧ Kept [] w w' := by
  by_cases h0 : l.length = 512
  case neg =>
    have HR : Hid (VP (TX.parseL l) = VP ⟨[], 0, false, 200⟩) := Lib.hid (by rw [parse_len l h0])
    have h0' : ¬ (l.length : Int) = 512 := by omega
    go_enter Tryd.func18, Tryd.ntmps18
    go_wp2
    go_returns
    exact ⟨by rw [HR.out] <;> rfl, Kept.refl _ _⟩
  have h0' : (l.length : Int) = 512 := by omega
  have hm : (Instr.makeSlice 31 (.int .i64 512) (.int .i64 512)).run Tryd.prog w = .ok (.slice (some ⟨w.heap.size, 0, none⟩) 512 512) (w.alloc (.cells (Lib.byteCells (zerosL 512)).toArray 5)) := make_bytes w 512 (by omega)
  have hrow : Row (w.alloc (.cells (Lib.byteCells (zerosL 512)).toArray 5)) w.heap.size (zerosL 512) := heap_new w _
  obtain ⟨W, hW⟩ : ∃ W, w.alloc (.cells (Lib.byteCells (zerosL 512)).toArray 5) = W := ⟨_, rfl⟩
  rw [hW] at hm hrow
  have K0 : Hid (Kept [] w W) := Lib.hid (hW ▸ (Kept.refl [] w).alloc _)
  have hcv := conv_row hrow 512
  rw [zerosL_len] at hcv
  obtain ⟨Z, hZ⟩ : ∃ Z, zerosL 512 = Z := ⟨_, rfl⟩
  rw [hZ] at hcv
  clear hW hrow
  by_cases hz : l = Z
  · have HR : Hid (VP (TX.parseL l) = VP ⟨[], 0, true, 0⟩) := Lib.hid (by rw [hz, ← hZ, show zerosL 512 = TX.zeros 512 from rfl, TX.parse_zeros])
    subst hz
    clear hZ
    go_enter Tryd.func18, Tryd.ntmps18
    go_wp2
    go_returns
    exact ⟨by rw [HR.out] <;> rfl, K0.out⟩
  have H0 : Hid (l.length = 512 ∧ l ≠ TX.zeros 512) := Lib.hid ⟨h0, fun e => hz (by rw [← hZ]; exact e)⟩
  have l8 : (c8 l).length ≤ 19 := by simp [c8]; omega
  have l12 : (c12 l).length ≤ 19 := by simp [c12]; omega
  obtain ⟨r8, hr8⟩ : ∃ r, TX.numL (c8 l) = r := ⟨_, rfl⟩
  have H8 := Lib.hid (And.intro hr8 l8)
  have hz2 : (l == Z) = false := by rw [beq_eq_false_iff_ne]; exact hz
  clear hr8 l8 h0 hZ hz
  go_enter Tryd.func18, Tryd.ntmps18
  go_wp2_with (fail)
  refine (rnumber_at (c8 l) r8 H8.out.1 W H8.out.2).mono ?_
  rintro e w1 ⟨rfl, rfl⟩
  obtain ⟨c, X, hcb, kX, hlX, hcX, hfX⟩ := text_bytes l W
  rw [show l.length = 512 from H0.out.1] at hcb hcX hfX
  have HX := Lib.hid (And.intro kX (And.intro hcX hfX))
  clear kX hcX hfX
  go_wp2_with (fail)
  refine (rsum_any l W.heap.size c X H0.out.1 HX.out.2.1).mono ?_
  rintro e w1 ⟨rfl, rfl⟩
  have H1 : Hid (Kept [] w X) := Lib.hid (K0.out.trans' HX.out.1)
  obtain ⟨m, hm2⟩ : ∃ m, TX.sumTo l 512 = m := ⟨_, rfl⟩
  rw [hm2]
  have HS := Lib.hid hm2
  clear hm2 hcb hcv hm
  cases r8 with
  | none =>
    have HR : Hid (VP (TX.parseL l) = VP ⟨[], 0, false, 201⟩) := Lib.hid (by rw [parse_sum l H0.out.1 H0.out.2 (by rw [H8.out.1]; simp)])
    have hne : ¬ (-1 : Int) = (m : Int) := by omega
    unfold numI
    go_wp2
    go_returns
    exact ⟨by rw [HR.out] <;> rfl, H1.out⟩
  | some n8 =>
    unfold numI
    by_cases he : n8 = m
    case neg =>
      have HR : Hid (VP (TX.parseL l) = VP ⟨[], 0, false, 201⟩) := Lib.hid (by rw [parse_sum l H0.out.1 H0.out.2 (by rw [H8.out.1, HS.out]; simpa using he)])
      have he' : ¬ (n8 : Int) = (m : Int) := by omega
      clear he
      go_wp2
      go_returns
      exact ⟨by rw [HR.out] <;> rfl, H1.out⟩
    subst he
    have hs : TX.numL (c8 l) = some (TX.sumTo l 512) := by rw [H8.out.1, HS.out]
    obtain ⟨r12, hr12⟩ : ∃ r, TX.numL (c12 l) = r := ⟨_, rfl⟩
    have hbd : ∀ n, r12 = some n → n < 144115188075855872 := fun n hn => by
      rw [hn] at hr12
      unfold TX.numL at hr12
      split at hr12
      · cases hr12
      · cases hr12
        exact octV_bd _ _ (Nat.le_refl _) (by have := TX.nOct_le (c12 l); omega)
    have H12 := Lib.hid (And.intro hr12 (And.intro l12 (And.intro hs hbd)))
    clear hr12 l12 hs hbd
    go_wp2_with (fail)
    refine (rnumber_at (c12 l) r12 H12.out.1 X H12.out.2.1).mono ?_
    rintro e w3 ⟨rfl, rfl⟩
    have hx5 : List.drop 257 (List.take 262 l) = c5 l := rfl
    have hbi := badB_iff l
    have HB := Lib.hid hbi
    clear hbi
    cases r12 with
    | none =>
      have HR : Hid (VP (TX.parseL l) = VP ⟨[], 0, false, 200⟩) := Lib.hid (by rw [parse_none l H0.out.1 H0.out.2 H12.out.2.2.1 H12.out.1])
      unfold numI
      go_wp2_with (fail)
      all_goals (go_returns; exact ⟨by rw [HR.out] <;> rfl, H1.out⟩)
    | some n =>
      have hn0 : ¬ (n : Int) < 0 := by omega
      unfold numI
      go_upto_region 12 with (fail)
      all_goals first
        | (go_returns
           have hb : badB l := by
             rw [HB.out]
             first | (left; assumption) | (right; (try simp only [beq_iff_eq, beq_eq_false_iff_ne, bne_iff_ne] at *); omega)
           have HR : Hid (VP (TX.parseL l) = VP ⟨[], 0, false, 200⟩) := Lib.hid (by rw [parse_bad l n H0.out.1 H0.out.2 H12.out.2.2.1 H12.out.1 hb])
           exact ⟨by rw [HR.out] <;> rfl, H1.out⟩)
        | (go_returns
           have hb : ¬ badB l := by
             rw [HB.out]
             rintro (h | h)
             · exact h (by assumption)
             · (try simp only [beq_iff_eq, beq_eq_false_iff_ne, bne_iff_ne] at *); omega
           have HR : Hid (VP (TX.parseL l) = VP ⟨[], 0, false, 202⟩) := Lib.hid (by rw [parse_long l n H0.out.1 H0.out.2 H12.out.2.2.1 H12.out.1 hb (by omega)])
           exact ⟨by rw [HR.out] <;> rfl, H1.out⟩)
        | (have hb : ¬ badB l := by
             rw [HB.out]
             rintro (h | h)
             · exact h (by assumption)
             · (try simp only [beq_iff_eq, beq_eq_false_iff_ne, bne_iff_ne] at *); omega
           have HR : Hid (VP (TX.parseL l) = VP ⟨(l.take 100).takeWhile (· != 0), n, false, 0⟩) := Lib.hid (by rw [parse_ok l n H0.out.1 H0.out.2 H12.out.2.2.1 H12.out.1 hb (by omega)])
           obtain ⟨t, ht⟩ : ∃ t, ((l.take 100).takeWhile (· != 0)).length = t := ⟨_, rfl⟩
           have hle := tw_le (· != 0) (l.take 100)
           rw [ht, List.length_take] at hle
           have HT : Hid ((∀ k, k < t → ¬ ((byteAt l k).toNat : Int) = 0) ∧ (t < 100 → ((byteAt l t).toNat : Int) = 0) ∧ (l.take 100).takeWhile (· != 0) = l.take t) := Lib.hid (by
             have hba : ∀ k, k < 100 → byteAt (l.take 100) k = byteAt l k := fun k hk => by
               unfold byteAt; rw [List.getD_eq_getElem?_getD, List.getElem?_take_of_lt hk, ← List.getD_eq_getElem?_getD]
             refine ⟨fun k hk => ?_, fun hk => ?_, ?_⟩
             · have h1 := tw_below (· != 0) (l.take 100) k (by omega)
               rw [hba k (by omega)] at h1
               intro e
               have h2 : byteAt l k = 0 := UInt8.toNat.inj (by simpa using e)
               rw [h2] at h1; exact absurd h1 (by decide)
             · have h1 := tw_stop (· != 0) (l.take 100) (by rw [ht, List.length_take]; omega)
               rw [ht, hba t hk] at h1
               have h2 : byteAt l t = 0 := by simpa using h1
               rw [h2]; rfl
             · conv => lhs; rw [tw_take (· != 0) (l.take 100), ht]
               rw [List.take_take, Nat.min_eq_left (by omega)])
           have ht1 : (t : Int) ≤ 100 := by omega
           clear ht
           go_wp2
           go_loop [7] (fun i => ∃ p : Nat, p ≤ t ∧ i = I p) (fun i => 100 - (intOf i).toNat)
           case atStart => exact ⟨0, by omega, rfl⟩
           case round =>
             obtain ⟨p, hp, rfl⟩ := hrel
             rcases Nat.lt_or_ge p t with hlt | hge
             · have hnz := HT.out.1 p hlt
               have hp1 : (p : Int) < 100 := by omega
               have hp2 : (p : Int) < l.length := by omega
               go_wp2
               go_round
               case rel => exact ⟨p + 1, by omega, by go_num⟩
               case measure => (simp [intOf]; omega)
             · obtain rfl : p = t := by omega
               have hp2 : (p : Int) < l.length := by omega
               have hp3 : (p : Int) ≤ l.length := by omega
               by_cases h100 : p < 100
               · have hz0 := HT.out.2.1 h100
                 have hp1 : (p : Int) < 100 := by omega
                 go_wp2
                 go_returns
                 exact ⟨by rw [HR.out, HT.out.2.2] <;> rfl, H1.out⟩
               · have hp1 : ¬ (p : Int) < 100 := by omega
                 go_wp2
                 go_returns
                 exact ⟨by rw [HR.out, HT.out.2.2] <;> rfl, H1.out⟩)
        | skip
end Go.Proofs.YtgdioalhlmnhhaaDoor
