/- Walks and lemmas on the program of this seat, used by its statements; each theorem bears its own conditions. -/
import Derived.Test.YtgdncdhalnijcaaGreatDoorMCP
import Derived.Handy
import Derived.Recover
import Derived.IntWalk
import Derived.Deep.CutRange
import Derived.OwnWalk
import Derived.Deep.AppendLies
import Derived.Deep.RegionLaw
import Derived.Deep.RegionHeld3
import Derived.StillTailTactics
import Derived.RegionTactic
import Derived.ChangeAlike
namespace Go.Proofs.YtgdncdhalnijcaaGreatDoor
open Go.RowKit
set_option linter.unusedVariables false
set_option linter.unusedSimpArgs false
section
namespace CL
set_option maxHeartbeats 8000000
set_option maxRecDepth 100000
theorem rrequest_any (host target : List UInt8) (k : Int) (w : World) (hk1 : -9223372036854775808 ≤ k) (hk2 : k ≤ 9223372036854775807) (h1 : host.length ≤ 9223372036854775807) (h2 : target.length ≤ 9223372036854775807) (r : List UInt8 × Nat) (hr : reqF host target k = r) :
    Calls Tryz.prog 37 #[S host, S target, I k] w fun e w' => e = .returned (.tuple #[S r.1, I r.2]) ∧ Kept [] w w' := by
  have HR := Lib.hid hr
  clear hr
  have HVh := Lib.hid (seen_any host w h1)
  have HVt := Lib.hid (seen_any target w h2)
  obtain ⟨bh, hbh⟩ : ∃ b, visB host = b := ⟨_, rfl⟩
  obtain ⟨bt, hbt⟩ : ∃ b, visB target = b := ⟨_, rfl⟩
  obtain ⟨b0, hb0⟩ : ∃ b, (byteAt target 0 == 47) = b := ⟨_, rfl⟩
  rw [hbh] at HVh
  rw [hbt] at HVt
  have HOK : Hid (okA host target = (bh && (bt && b0))) := Lib.hid (by unfold okA; rw [hbh, hbt, hb0])
  have hb0' := bne47 _ b0 hb0
  have HLH : Hid (bh = true → 1 ≤ host.length ∧ host.length ≤ 64) := Lib.hid fun h => vis_len (by rw [hbh, h])
  have HLT : Hid (bt = true → 1 ≤ target.length ∧ target.length ≤ 64) := Lib.hid fun h => vis_len (by rw [hbt, h])
  clear hbh hbt hb0
  cases bh with
  | false =>
    have HF : Hid (r = ([], 170)) := Lib.hid (by rw [← HR.out]; unfold reqF; rw [HOK.out]; simp)
    go_enter Tryz.func37, Tryz.ntmps37
    go_wp2_with (first
      | (go_at_call 64; (with_reducible refine HVh.out.mono ?_); rintro x w5 ⟨rfl, rfl⟩)
      | (go_at_call 64; (with_reducible refine HVt.out.mono ?_); rintro x w5 ⟨rfl, rfl⟩))
    all_goals (go_returns; exact ⟨by rw [HF.out] <;> rfl, Kept.refl _ _⟩)
  | true =>
  cases bt with
  | false =>
    have HF : Hid (r = ([], 170)) := Lib.hid (by rw [← HR.out]; unfold reqF; rw [HOK.out]; simp)
    go_enter Tryz.func37, Tryz.ntmps37
    go_wp2_with (first
      | (go_at_call 64; (with_reducible refine HVh.out.mono ?_); rintro x w5 ⟨rfl, rfl⟩)
      | (go_at_call 64; (with_reducible refine HVt.out.mono ?_); rintro x w5 ⟨rfl, rfl⟩))
    all_goals (go_returns; exact ⟨by rw [HF.out] <;> rfl, Kept.refl _ _⟩)
  | true =>
  cases b0 with
  | false =>
    have HF : Hid (r = ([], 170)) := Lib.hid (by rw [← HR.out]; unfold reqF; rw [HOK.out]; simp)
    have htl := (HLT.out rfl).1
    have htl' : (1 : Int) ≤ target.length := by omega
    have htl2 : (0 : Int) < target.length := by omega
    have hb0'' : (((byteAt target 0).toNat : Int) != 47) = true := hb0'
    clear hb0'
    go_enter Tryz.func37, Tryz.ntmps37
    go_wp2_with (first
      | (go_at_call 64; (with_reducible refine HVh.out.mono ?_); rintro x w5 ⟨rfl, rfl⟩)
      | (go_at_call 64; (with_reducible refine HVt.out.mono ?_); rintro x w5 ⟨rfl, rfl⟩))
    all_goals (go_returns; exact ⟨by rw [HF.out] <;> rfl, Kept.refl _ _⟩)
  | true =>
  have htl := HLT.out rfl
  have htl2 : (0 : Int) < target.length := by omega
  have htl3 : (target.length : Int) ≤ 64 := by omega
  have hhl := HLH.out rfl
  have hhl3 : (host.length : Int) ≤ 64 := by omega
  have hb0'' : (((byteAt target 0).toNat : Int) != 47) = false := hb0'
  clear hb0'
  by_cases hk0 : 0 ≤ k
  case neg =>
    have HF : Hid (r = ([], 170)) := Lib.hid (by rw [← HR.out]; unfold reqF; rw [HOK.out, decide_eq_false hk0]; rfl)
    have hk0' : k < 0 := by omega
    go_enter Tryz.func37, Tryz.ntmps37
    go_wp2_with (first
      | (go_at_call 64; (with_reducible refine HVh.out.mono ?_); rintro x w5 ⟨rfl, rfl⟩)
      | (go_at_call 64; (with_reducible refine HVt.out.mono ?_); rintro x w5 ⟨rfl, rfl⟩))
    all_goals (go_returns; exact ⟨by rw [HF.out] <;> rfl, Kept.refl _ _⟩)
  have hk0' : ¬ k < 0 := by omega
  obtain ⟨n, rfl⟩ : ∃ n : Nat, k = (n : Int) := ⟨k.toNat, by omega⟩
  have HF : Hid (r = (reqL host target n, 0)) := Lib.hid (by rw [← HR.out]; unfold reqF; rw [HOK.out, decide_eq_true hk0]; rfl)
  obtain ⟨x1, hx1⟩ : ∃ x1, [71, 69, 84, 32] ++ target ++ [32, 72, 84, 84, 80, 47, 49, 46, 49, 13, 10, 72, 111, 115, 116, 58, 32] ++ host ++ [13, 10] = x1 := ⟨_, rfl⟩
  have hx1l : x1.length ≤ 200 := by rw [← hx1]; simp; omega
  have hx1I : (x1.length : Int) ≤ 200 := by omega
  have HX1 := Lib.hid hx1
  clear hx1 hx1l
  by_cases hn0 : 0 < n
  · have hn0' : (n : Int) > 0 := by omega
    have HNu := Lib.hid (num_ref n w (by omega))
    have HF2 : Hid (reqL host target n = x1 ++ (([82, 97, 110, 103, 101, 58, 32, 98, 121, 116, 101, 115, 61] ++ Lib.decDigits n) ++ [45, 13, 10]) ++ (clo ++ [13, 10, 13, 10])) := Lib.hid (by rw [← HX1.out]; unfold reqL; rw [if_pos hn0] <;> simp)
    have hdl : ((Lib.decDigits n).length : Int) ≤ 19 := by have := dec_len20 n (by omega); omega
    obtain ⟨dd, hdd⟩ : ∃ dd, Lib.decDigits n = dd := ⟨_, rfl⟩
    rw [hdd] at HNu hdl HF2
    clear hdd
    go_enter Tryz.func37, Tryz.ntmps37
    go_wp2_with (first
      | (go_at_call 64; (with_reducible refine HVh.out.mono ?_); rintro x w5 ⟨rfl, rfl⟩)
      | (go_at_call 64; (with_reducible refine HVt.out.mono ?_); rintro x w5 ⟨rfl, rfl⟩)
      | (go_at_call 27; (with_reducible refine HNu.out.mono ?_); rintro x w5 ⟨rfl, k5⟩; have H5 := Lib.hid k5; clear k5))
    go_returns
    exact ⟨by rw [HF.out, HF2.out, ← HX1.out]; simp [clo], H5.out⟩
  · have hn0' : ¬ (n : Int) > 0 := by omega
    have HF2 : Hid (reqL host target n = x1 ++ (clo ++ [13, 10, 13, 10])) := Lib.hid (by rw [← HX1.out]; unfold reqL; rw [if_neg hn0]; simp)
    go_enter Tryz.func37, Tryz.ntmps37
    go_wp2_with (first
      | (go_at_call 64; (with_reducible refine HVh.out.mono ?_); rintro x w5 ⟨rfl, rfl⟩)
      | (go_at_call 64; (with_reducible refine HVt.out.mono ?_); rintro x w5 ⟨rfl, rfl⟩))
    go_returns
    exact ⟨by rw [HF.out, HF2.out, ← HX1.out]; simp [clo], Kept.refl _ _⟩
/-! ### The document's range is the program's -/
theorem cut_true {l a r : List UInt8} {c : UInt8} (h : Lib.cut l [c] = (a, r, true)) : l = a ++ c :: r := by
  unfold Lib.cut at h
  rcases Lib.index_spec l [c] with ⟨h1, _⟩ | ⟨i, h1, h2, h3, _⟩
  · rw [h1] at h
    simp at h
  · rw [h1, if_pos (by omega)] at h
    simp only [Prod.mk.injEq, Int.toNat_natCast] at h
    obtain ⟨e1, e2, _⟩ := h
    unfold Lib.occAt at h3
    cases hd : l.drop i with
    | nil => rw [hd] at h3; simp [List.isPrefixOf] at h3
    | cons x t =>
      rw [hd] at h3
      simp [List.isPrefixOf] at h3
      subst h3
      have ht : l.drop (i + 1) = t := by
        have := congrArg (List.drop 1) hd
        rw [List.drop_drop] at this
        simpa using this
      have e2' : l.drop (i + 1) = r := by simpa using e2
      rw [← e1, ← e2', ht, ← hd, List.take_append_drop]
structure Dg (d : List UInt8) : Prop where
  ne : d ≠ []
  le : d.length ≤ 9
  al : d.all BD.isDig = true
theorem Dg.len {d : List UInt8} (h : Dg d) : BD.lengthF d = BD.digs d := by
  unfold BD.lengthF
  rw [if_neg (by simp [h.ne]; exact h.le), if_pos h.al]
theorem dg_of {d : List UInt8} (h : 0 ≤ BD.lengthF d) : Dg d := by
  unfold BD.lengthF at h
  split at h
  · omega
  · rename_i hn
    split at h
    · rename_i ha
      exact ⟨fun e => hn (.inl e), by omega, ha⟩
    · omega
theorem Dg.not {d : List UInt8} (h : Dg d) (k : UInt8) (hk : BD.isDig k = false) : ∀ c ∈ d, c ≠ k := by
  intro c hc e
  subst e
  have := List.all_eq_true.1 h.al c hc
  rw [hk] at this; cases this
def digF (s : List UInt8) : Int × List UInt8 :=
  if (s.takeWhile BD.isDig) = [] ∨ 9 < (s.takeWhile BD.isDig).length then (-1, []) else (BD.digs (s.takeWhile BD.isDig), s.drop (s.takeWhile BD.isDig).length)
def rangeF (s : List UInt8) : Int × Int × Int × Bool :=
  if s.length < 6 ∨ s.take 6 ≠ bytesL then (0, 0, 0, false)
  else if (digF (s.drop 6)).1 < 0 ∨ (digF (s.drop 6)).2 = [] ∨ byteAt (digF (s.drop 6)).2 0 ≠ 45 then (0, 0, 0, false)
  else if (digF ((digF (s.drop 6)).2.drop 1)).1 < (digF (s.drop 6)).1 ∨ (digF ((digF (s.drop 6)).2.drop 1)).2 = [] ∨ byteAt (digF ((digF (s.drop 6)).2.drop 1)).2 0 ≠ 47 then (0, 0, 0, false)
  else ((digF (s.drop 6)).1, (digF ((digF (s.drop 6)).2.drop 1)).1, (digF ((digF ((digF (s.drop 6)).2.drop 1)).2.drop 1)).1, decide ((digF ((digF (s.drop 6)).2.drop 1)).1 < (digF ((digF ((digF (s.drop 6)).2.drop 1)).2.drop 1)).1 ∧ (digF ((digF ((digF (s.drop 6)).2.drop 1)).2.drop 1)).2 = []))
theorem dig_split {d r : List UInt8} (h : Dg d) (hr : ∀ c, r.head? = some c → BD.isDig c = false) : digF (d ++ r) = (BD.digs d, r) := by
  have ht : (d ++ r).takeWhile BD.isDig = d := by
    rw [List.takeWhile_append_of_pos (by intro a ha; exact List.all_eq_true.1 h.al a ha)]
    have : r.takeWhile BD.isDig = [] := by
      cases r with
      | nil => rfl
      | cons x t => rw [List.takeWhile_cons, if_neg (by rw [hr x rfl]; decide)]
    rw [this, List.append_nil]
  unfold digF
  rw [ht, if_neg (by have := h.le; have := h.ne; simp [this]; omega)]
  simp
theorem dig_form {s r : List UInt8} {a : Int} (h : digF s = (a, r)) (ha : 0 ≤ a) : ∃ d, Dg d ∧ s = d ++ r ∧ a = BD.digs d ∧ ∀ c, r.head? = some c → BD.isDig c = false := by
  unfold digF at h
  split at h
  · cases h; omega
  · rename_i hn
    simp only [Prod.mk.injEq] at h
    obtain ⟨h1, h2⟩ := h
    have hs : s.takeWhile BD.isDig ++ s.dropWhile BD.isDig = s := List.takeWhile_append_dropWhile
    have hd : s.drop (s.takeWhile BD.isDig).length = s.dropWhile BD.isDig := by
      have h3 := congrArg (List.drop (s.takeWhile BD.isDig).length) hs
      rw [List.drop_left' rfl] at h3
      exact h3.symm
    refine ⟨s.takeWhile BD.isDig, ⟨fun e => hn (.inl e), by omega, List.all_takeWhile⟩, ?_, h1.symm, ?_⟩
    · rw [← h2, hd, hs]
    · intro c hc
      rw [← h2, hd] at hc
      cases hb : BD.isDig c with
      | false => rfl
      | true =>
        have := List.head?_dropWhile_not BD.isDig s
        rw [hc] at this
        simp [hb] at this
structure SpForm (s d1 d2 d3 : List UInt8) : Prop where
  eq : s = bytesL ++ (d1 ++ 45 :: (d2 ++ 47 :: d3))
  g1 : Dg d1
  g2 : Dg d2
  g3 : Dg d3
  le : BD.digs d1 ≤ BD.digs d2
  lt : BD.digs d2 < BD.digs d3
theorem SpForm.span {s d1 d2 d3 : List UInt8} (h : SpForm s d1 d2 d3) : spanF s = ⟨BD.digs d1, BD.digs d2, BD.digs d3, true⟩ := by
  have hp : Lib.hasPrefix s bytesL = true := by rw [h.eq]; unfold Lib.hasPrefix; simp
  have ht : Lib.trimPrefix s bytesL = d1 ++ 45 :: (d2 ++ 47 :: d3) := by
    unfold Lib.trimPrefix
    rw [if_pos hp, h.eq]; simp
  have c1 := cut_byte d1 (d2 ++ 47 :: d3) 45 (h.g1.not 45 (by decide))
  have c2 := cut_byte d2 d3 47 (h.g2.not 47 (by decide))
  have n1 : 0 ≤ BD.digs d1 := by
    have := (BD.digs_bd d1 h.g1.al d1.length (Nat.le_refl _)).1
    rwa [List.take_length] at this
  unfold spanF
  rw [ht, hp, c1]
  dsimp only
  rw [c2]
  dsimp only
  rw [h.g1.len, h.g2.len, h.g3.len] at *
  have e1 : decide ((0 : Int) ≤ BD.digs d1) = true := decide_eq_true n1
  have e2 : decide (BD.digs d1 ≤ BD.digs d2) = true := decide_eq_true h.le
  have e3 : decide (BD.digs d2 < BD.digs d3) = true := decide_eq_true h.lt
  rw [e1, e2, e3]
  rfl
theorem SpForm.range {s d1 d2 d3 : List UInt8} (h : SpForm s d1 d2 d3) : rangeF s = (BD.digs d1, BD.digs d2, BD.digs d3, true) := by
  have n1 : ∀ {d : List UInt8}, Dg d → 0 ≤ BD.digs d := fun {d} g => by
    have := (BD.digs_bd d g.al d.length (Nat.le_refl _)).1
    rwa [List.take_length] at this
  have hl : bytesL.length = 6 := rfl
  have hd6 : s.drop 6 = d1 ++ 45 :: (d2 ++ 47 :: d3) := by rw [h.eq, List.drop_left' hl]
  have ht6 : s.take 6 = bytesL := by rw [h.eq, List.take_left' hl]
  have k1 := dig_split (d := d1) (r := 45 :: (d2 ++ 47 :: d3)) h.g1 (by intro c hc; cases hc; decide)
  have k2 := dig_split (d := d2) (r := 47 :: d3) h.g2 (by intro c hc; cases hc; decide)
  have k3 := dig_split (d := d3) (r := []) h.g3 (by intro c hc; cases hc)
  rw [List.append_nil] at k3
  have hlen : ¬ (s.length < 6 ∨ s.take 6 ≠ bytesL) := by
    rw [ht6]
    have : s.length ≥ 6 := by rw [h.eq, List.length_append]; omega
    simp; omega
  unfold rangeF
  rw [if_neg hlen, hd6, k1]
  have b1 : byteAt (45 :: (d2 ++ 47 :: d3)) 0 = 45 := rfl
  have b2 : byteAt (47 :: d3) 0 = 47 := rfl
  rw [if_neg (by simp only [b1]; have := n1 h.g1; simp; omega)]
  simp only [List.drop_succ_cons, List.drop_zero, k2]
  rw [if_neg (by simp only [b2]; have := h.le; simp; omega)]
  simp only [List.drop_succ_cons, List.drop_zero, k3]
  have := h.lt
  simp [this]
theorem span_form {s : List UInt8} (h : (spanF s).ok = true) : ∃ d1 d2 d3, SpForm s d1 d2 d3 := by
  unfold spanF at h
  simp only [Bool.and_eq_true, decide_eq_true_eq] at h
  obtain ⟨⟨⟨⟨⟨h1, h2⟩, h3⟩, h4⟩, h5⟩, h6⟩ := h
  obtain ⟨p1, r1, b1, e1⟩ : ∃ p r b, Lib.cut (Lib.trimPrefix s bytesL) [45] = (p, r, b) := ⟨_, _, _, rfl⟩
  rw [e1] at h2 h3 h4 h5 h6
  simp only at h2 h3 h4 h5 h6
  obtain ⟨p2, r2, b2, e2⟩ : ∃ p r b, Lib.cut r1 [47] = (p, r, b) := ⟨_, _, _, rfl⟩
  rw [e2] at h3 h5 h6
  simp only at h3 h5 h6
  subst h2 h3
  have c1 := cut_true e1
  have c2 := cut_true e2
  have g1 := dg_of h4
  have g2 := dg_of (d := p2) (by omega)
  have g3 := dg_of (d := r2) (by omega)
  rw [g1.len] at h4 h5
  rw [g2.len] at h5 h6
  rw [g3.len] at h6
  refine ⟨p1, p2, r2, ?_, g1, g2, g3, h5, h6⟩
  rw [← c2, ← c1]
  unfold Lib.hasPrefix at h1
  unfold Lib.trimPrefix Lib.hasPrefix
  rw [if_pos h1]
  obtain ⟨t, ht⟩ := List.isPrefixOf_iff_prefix.1 h1
  rw [← ht]; simp
theorem range_form {s : List UInt8} (h : (rangeF s).2.2.2 = true) : ∃ d1 d2 d3, SpForm s d1 d2 d3 := by
  unfold rangeF at h
  split at h
  · cases h
  rename_i h6
  obtain ⟨a, r1, e1⟩ : ∃ a r, digF (s.drop 6) = (a, r) := ⟨_, _, rfl⟩
  rw [e1] at h
  simp only at h
  split at h
  · cases h
  rename_i h1
  obtain ⟨b, r2, e2⟩ : ∃ a r, digF (r1.drop 1) = (a, r) := ⟨_, _, rfl⟩
  rw [e2] at h
  simp only at h
  split at h
  · cases h
  rename_i h2
  obtain ⟨t, r3, e3⟩ : ∃ a r, digF (r2.drop 1) = (a, r) := ⟨_, _, rfl⟩
  rw [e3] at h
  simp only [decide_eq_true_eq] at h
  obtain ⟨h3, h4⟩ := h
  obtain ⟨d1, g1, s1, a1, _⟩ := dig_form e1 (by omega)
  obtain ⟨d2, g2, s2, a2, _⟩ := dig_form e2 (by omega)
  obtain ⟨d3, g3, s3, a3, _⟩ := dig_form e3 (by omega)
  have hc : ∀ (r : List UInt8) (k : UInt8), ¬ (r = [] ∨ byteAt r 0 ≠ k) → r = k :: r.drop 1 := by
    intro r k hn
    cases r with
    | nil => exact absurd (.inl rfl) hn
    | cons x t =>
      have : x = k := by
        apply Decidable.byContradiction
        intro hne
        exact hn (.inr hne)
      rw [this]; rfl
  have q1 := hc r1 45 (fun hh => h1 (.inr hh))
  have q2 := hc r2 47 (fun hh => h2 (.inr hh))
  refine ⟨d1, d2, d3, ?_, g1, g2, g3, by omega, by omega⟩
  have hp : s.take 6 = bytesL := by
    apply Decidable.byContradiction
    intro hne
    exact h6 (.inr hne)
  have hs : s = s.take 6 ++ s.drop 6 := (List.take_append_drop 6 s).symm
  rw [hs, hp, s1, q1, s2, q2, s3, h4, List.append_nil]
/-- The document's range and the program's say the same. -/
theorem range_span (s : List UInt8) : (rangeF s).2.2.2 = (spanF s).ok ∧ ((spanF s).ok = true → rangeF s = ((spanF s).f, (spanF s).t, (spanF s).a, true)) := by
  cases hs : (spanF s).ok with
  | true =>
    obtain ⟨d1, d2, d3, h⟩ := span_form hs
    rw [h.range, h.span]
    exact ⟨rfl, fun _ => rfl⟩
  | false =>
    refine ⟨?_, fun h => by cases h⟩
    cases hr : (rangeF s).2.2.2 with
    | false => rfl
    | true =>
      obtain ⟨d1, d2, d3, h⟩ := range_form hr
      rw [h.span] at hs
      cases hs
/-! ### The document's client in memory: its first cells are the client's own -/
structure Mx where
  raw : List UInt8
  known : Bool
  hst : Int
  nv : Value
  vv : Value
  n : Int
  seen : Int
def marr (c : Cl) (y : Mx) : Array Value := #[S c.host, S c.target, I c.frm, I c.limit, I c.tmo, I c.trs, I c.wt, I c.state, I c.e, I c.got, I c.total, I c.now, I c.tries, I c.wait, I c.wake, I c.began, I c.last, S y.raw, .bool y.known, I y.hst, y.nv, y.vv, I y.n, I y.seen, I c.skip, I c.left]
structure MAt (w : World) (b : Nat) (c : Cl) (y : Mx) : Prop where
  blk : w.heap[b]? = some (.cells (marr c y) 55 (0, 0))
section
variable {w : World} {b : Nat} {c : Cl} {y : Mx}
theorem MAt.lt (h : MAt w b c y) : b < w.heap.size := lt_of_block h.blk
theorem MAt.kept {w' : World} {T : List Nat} (h : MAt w b c y) (k : Kept T w w') (h1 : b ∉ T) : MAt w' b c y := ⟨k.at h.blk h1⟩
theorem MAt.drew (h : MAt w b c y) : MAt w.drew b c y := ⟨h.blk⟩
theorem MAt.drewN (h : MAt w b c y) (n : Nat) : MAt (w.drewN n) b c y := ⟨h.blk⟩
theorem MAt.free (h : MAt w b c y) (i : Nat) : w.frozen? ⟨b, i, none⟩ = false := free_at h.blk i
theorem MAt.cells (h : MAt w b c y) : w.cell? ⟨b, 0, none⟩ = some (S c.host) ∧ w.cell? ⟨b, 1, none⟩ = some (S c.target) ∧ w.cell? ⟨b, 2, none⟩ = some (I c.frm) ∧ w.cell? ⟨b, 3, none⟩ = some (I c.limit) ∧ w.cell? ⟨b, 4, none⟩ = some (I c.tmo) ∧ w.cell? ⟨b, 5, none⟩ = some (I c.trs) ∧ w.cell? ⟨b, 6, none⟩ = some (I c.wt) ∧ w.cell? ⟨b, 7, none⟩ = some (I c.state) ∧ w.cell? ⟨b, 8, none⟩ = some (I c.e) ∧ w.cell? ⟨b, 9, none⟩ = some (I c.got) ∧ w.cell? ⟨b, 10, none⟩ = some (I c.total) ∧ w.cell? ⟨b, 11, none⟩ = some (I c.now) ∧ w.cell? ⟨b, 12, none⟩ = some (I c.tries) ∧ w.cell? ⟨b, 13, none⟩ = some (I c.wait) ∧ w.cell? ⟨b, 14, none⟩ = some (I c.wake) ∧ w.cell? ⟨b, 15, none⟩ = some (I c.began) ∧ w.cell? ⟨b, 16, none⟩ = some (I c.last) ∧ w.cell? ⟨b, 17, none⟩ = some (S y.raw) ∧ w.cell? ⟨b, 18, none⟩ = some (.bool y.known) ∧ w.cell? ⟨b, 19, none⟩ = some (I y.hst) ∧ w.cell? ⟨b, 20, none⟩ = some (y.nv) ∧ w.cell? ⟨b, 21, none⟩ = some (y.vv) ∧ w.cell? ⟨b, 22, none⟩ = some (I y.n) ∧ w.cell? ⟨b, 23, none⟩ = some (I y.seen) ∧ w.cell? ⟨b, 24, none⟩ = some (I c.skip) ∧ w.cell? ⟨b, 25, none⟩ = some (I c.left) := by
  have hb := h.blk
  unfold marr at hb
  refine ⟨?_, ?_, ?_, ?_, ?_, ?_, ?_, ?_, ?_, ?_, ?_, ?_, ?_, ?_, ?_, ?_, ?_, ?_, ?_, ?_, ?_, ?_, ?_, ?_, ?_, ?_⟩ <;> (rw [cell_at hb]; rfl)
theorem MAt.set7 (h : MAt w b c y) (x : Int) : MAt (w.setCell ⟨b, 7, none⟩ (I x)) b { c with state := x } y := ⟨heap_setCell_at h.blk 7 _⟩
theorem MAt.set8 (h : MAt w b c y) (x : Int) : MAt (w.setCell ⟨b, 8, none⟩ (I x)) b { c with e := x } y := ⟨heap_setCell_at h.blk 8 _⟩
theorem MAt.set9 (h : MAt w b c y) (x : Int) : MAt (w.setCell ⟨b, 9, none⟩ (I x)) b { c with got := x } y := ⟨heap_setCell_at h.blk 9 _⟩
theorem MAt.set10 (h : MAt w b c y) (x : Int) : MAt (w.setCell ⟨b, 10, none⟩ (I x)) b { c with total := x } y := ⟨heap_setCell_at h.blk 10 _⟩
theorem MAt.set11 (h : MAt w b c y) (x : Int) : MAt (w.setCell ⟨b, 11, none⟩ (I x)) b { c with now := x } y := ⟨heap_setCell_at h.blk 11 _⟩
theorem MAt.set12 (h : MAt w b c y) (x : Int) : MAt (w.setCell ⟨b, 12, none⟩ (I x)) b { c with tries := x } y := ⟨heap_setCell_at h.blk 12 _⟩
theorem MAt.set13 (h : MAt w b c y) (x : Int) : MAt (w.setCell ⟨b, 13, none⟩ (I x)) b { c with wait := x } y := ⟨heap_setCell_at h.blk 13 _⟩
theorem MAt.set14 (h : MAt w b c y) (x : Int) : MAt (w.setCell ⟨b, 14, none⟩ (I x)) b { c with wake := x } y := ⟨heap_setCell_at h.blk 14 _⟩
theorem MAt.set15 (h : MAt w b c y) (x : Int) : MAt (w.setCell ⟨b, 15, none⟩ (I x)) b { c with began := x } y := ⟨heap_setCell_at h.blk 15 _⟩
theorem MAt.set16 (h : MAt w b c y) (x : Int) : MAt (w.setCell ⟨b, 16, none⟩ (I x)) b { c with last := x } y := ⟨heap_setCell_at h.blk 16 _⟩
theorem MAt.set24 (h : MAt w b c y) (x : Int) : MAt (w.setCell ⟨b, 24, none⟩ (I x)) b { c with skip := x } y := ⟨heap_setCell_at h.blk 24 _⟩
theorem MAt.set25 (h : MAt w b c y) (x : Int) : MAt (w.setCell ⟨b, 25, none⟩ (I x)) b { c with left := x } y := ⟨heap_setCell_at h.blk 25 _⟩
theorem MAt.set17 (h : MAt w b c y) (x : List UInt8) : MAt (w.setCell ⟨b, 17, none⟩ (S x)) b c { y with raw := x } := ⟨heap_setCell_at h.blk 17 _⟩
theorem MAt.set18 (h : MAt w b c y) (x : Bool) : MAt (w.setCell ⟨b, 18, none⟩ (.bool x)) b c { y with known := x } := ⟨heap_setCell_at h.blk 18 _⟩
theorem MAt.set19 (h : MAt w b c y) (x : Int) : MAt (w.setCell ⟨b, 19, none⟩ (I x)) b c { y with hst := x } := ⟨heap_setCell_at h.blk 19 _⟩
theorem MAt.set20 (h : MAt w b c y) (x : Value) : MAt (w.setCell ⟨b, 20, none⟩ (x)) b c { y with nv := x } := ⟨heap_setCell_at h.blk 20 _⟩
theorem MAt.set21 (h : MAt w b c y) (x : Value) : MAt (w.setCell ⟨b, 21, none⟩ (x)) b c { y with vv := x } := ⟨heap_setCell_at h.blk 21 _⟩
theorem MAt.set22 (h : MAt w b c y) (x : Int) : MAt (w.setCell ⟨b, 22, none⟩ (I x)) b c { y with n := x } := ⟨heap_setCell_at h.blk 22 _⟩
theorem MAt.set23 (h : MAt w b c y) (x : Int) : MAt (w.setCell ⟨b, 23, none⟩ (I x)) b c { y with seen := x } := ⟨heap_setCell_at h.blk 23 _⟩
end
def MPost (v : Value) (b : Nat) (w : World) (c : Cl) (y : Mx) (e : Ending) (w' : World) : Prop := e = .returned v ∧ MAt w' b c y ∧ Kept [b] w w'
theorem MPost.mk {v : Value} {b : Nat} {w w' : World} {c c' : Cl} {y : Mx} (h : MAt w' b c' y) (k : Kept [b] w w') (e : c' = c) : MPost v b w c y (.returned v) w' := by subst e; exact ⟨rfl, h, k⟩
theorem rfails_any (b : Nat) (c : Cl) (y : Mx) (k : Int) (w : World) (h : MAt w b c y) : Calls Tryz.prog 39 #[Ptr b, I k] w (MPost (.tuple #[]) b w (failsF c k) y) := by
  obtain ⟨c0, c1, c2, c3, c4, c5, c6, c7, c8, c9, c10, c11, c12, c13, c14, c15, c16, c17, c18, c19, c20, c21, c22, c23, c24, c25⟩ := h.cells
  have hf := h.free
  have H := Lib.hid h
  clear h
  go_enter Tryz.func39, Tryz.ntmps39
  go_wp2_with (fail)
  exact bodyPost_end (v := .tuple #[]) (by simp [results, Tryz.results39, go_sem]) rfl (MPost.mk ((H.out.set7 4).set8 k) (((Kept.refl [b] w).setCell (.inl (by simp)) _).setCell (.inl (by simp)) _) rfl)
set_option maxHeartbeats 4000000 in
theorem rloses_any (b : Nat) (c : Cl) (y : Mx) (w : World) (h : MAt w b c y) (hd : c.Bd) : Calls Tryz.prog 45 #[Ptr b] w (MPost (.tuple #[]) b w (losesF c) y) := by
  have hf := h.free
  have H := Lib.hid h
  have HD := Lib.hid hd
  clear h hd
  go_enter Tryz.func45, Tryz.ntmps45
  obtain ⟨c0, c1, c2, c3, c4, c5, c6, c7, c8, c9, c10, c11, c12, c13, c14, c15, c16, c17, c18, c19, c20, c21, c22, c23, c24, c25⟩ := H.out.cells
  go_wp2_with (fail)
  go_quiet (fail)
  have h1 : MAt (w.drewN nq) b c y := H.out.drewN nq
  have k1 : Kept [b] w (w.drewN nq) := (Kept.refl _ _).drewN _
  clear c0 c1 c2 c3 c4 c5 c6 c7 c8 c9 c10 c11 c12 c13 c14 c15 c16 c17 c18 c19 c20 c21 c22 c23 c24 c25 hf
  generalize w.drewN nq = w1 at *
  obtain ⟨c0, c1, c2, c3, c4, c5, c6, c7, c8, c9, c10, c11, c12, c13, c14, c15, c16, c17, c18, c19, c20, c21, c22, c23, c24, c25⟩ := h1.cells
  have hf := h1.free
  have H1 := Lib.hid (And.intro h1 k1)
  clear h1 k1
  go_upto_if 10 with (fail)
  go_cut [] from 11 to 26 (fun wx => MAt wx b (lose1 c) y ∧ Kept [b] w wx)
  case first =>
    go_wp2_with (fail)
    · have hbg : c.began < c.got := by assumption
      have HL : Hid (lose1 c = { c with tries := c.trs, wait := c.wt }) := Lib.hid (by unfold lose1; rw [if_pos hbg])
      all_goals (go_meet)
      all_goals (refine ⟨?_, ?_⟩)
      all_goals first
        | exact ((H1.out.2.setCell (.inl (by simp)) _).setCell (.inl (by simp)) _)
        | (rw [HL.out]; exact ((H1.out.1.set12 c.trs).set13 c.wt))
    · have hbg : ¬ c.began < c.got := by first | assumption | omega
      have HL : Hid (lose1 c = c) := Lib.hid (by unfold lose1; rw [if_neg hbg])
      all_goals go_meet
      exact ⟨by rw [HL.out]; exact H1.out.1, H1.out.2⟩
  case rest =>
  obtain ⟨h1, k1⟩ := hcut
  clear H1
  clear c0 c1 c2 c3 c4 c5 c6 c7 c8 c9 c10 c11 c12 c13 c14 c15 c16 c17 c18 c19 c20 c21 c22 c23 c24 c25 hf
  obtain ⟨l, hl⟩ : ∃ l, lose1 c = l := ⟨_, rfl⟩
  have hlb : 0 ≤ l.tries ∧ l.tries ≤ 16 ∧ 1 ≤ l.wait ∧ l.wait ≤ 64000 ∧ 0 ≤ l.now ∧ l.now ≤ 1099511627776 := by
    have h := HD.out
    rw [← hl]; unfold lose1
    split
    · exact ⟨(show 0 ≤ c.trs by have := h.r0; omega), h.r1, h.w0, (show c.wt ≤ 64000 by have := h.w1; omega), h.n0, h.n1⟩
    · exact ⟨h.y0, h.y1, h.a0, h.a1, h.n0, h.n1⟩
  obtain ⟨b1, b2, b3, b4, b5, b6⟩ := hlb
  have HL : Hid (losesF c = lose2 { l with tries := l.tries - 1 }) := Lib.hid (by unfold losesF; rw [hl])
  rw [hl] at h1
  obtain ⟨c0, c1, c2, c3, c4, c5, c6, c7, c8, c9, c10, c11, c12, c13, c14, c15, c16, c17, c18, c19, c20, c21, c22, c23, c24, c25⟩ := h1.cells
  have hf := h1.free
  have H1 := Lib.hid (And.intro h1 k1)
  clear h1 k1 hl
  go_upto_region 4 with (fail)
  have h2 := H1.out.1.set12 (l.tries - 1)
  have k2 : Kept [b] w (wc.setCell ⟨b, 12, none⟩ (I (l.tries - 1))) := H1.out.2.setCell (.inl (by simp)) _
  clear c0 c1 c2 c3 c4 c5 c6 c7 c8 c9 c10 c11 c12 c13 c14 c15 c16 c17 c18 c19 c20 c21 c22 c23 c24 c25 hf
  obtain ⟨w2, hw2⟩ : ∃ w2, wc.setCell ⟨b, 12, none⟩ (I (l.tries - 1)) = w2 := ⟨_, rfl⟩
  have hw2' : wc.setCell ⟨b, 12, none⟩ (Value.int .i64 (l.tries - 1)) = w2 := hw2
  rw [hw2] at h2 k2
  rw [hw2']
  clear hw2 hw2'
  obtain ⟨c0, c1, c2, c3, c4, c5, c6, c7, c8, c9, c10, c11, c12, c13, c14, c15, c16, c17, c18, c19, c20, c21, c22, c23, c24, c25⟩ := h2.cells
  simp only at c12
  have hf := h2.free
  have H2 := Lib.hid (And.intro h2 k2)
  clear h2 k2
  by_cases ht : l.tries - 1 = 0
  · have htb : (l.tries - 1 == 0) = true := by simpa using ht
    have HT : Hid (losesF c = failsF { l with tries := l.tries - 1 } 194) := Lib.hid (by rw [HL.out]; unfold lose2; rw [if_pos ht])
    clear ht
    go_wp2_with (fail)
    refine (rfails_any b _ y 194 w2 H2.out.1).mono ?_
    rintro e w3 ⟨rfl, h3, k3⟩
    go_wp2_with (fail)
    exact bodyPost_ret (v := .tuple #[]) (by simp [results, Tryz.results45, go_sem]) rfl (MPost.mk h3 (H2.out.2.trans' k3) HT.out.symm)
  · have htb : (l.tries - 1 == 0) = false := by simpa using ht
    have HT : Hid (losesF c = { l with tries := l.tries - 1, state := 2, wake := l.now + l.wait, wait := min 64000 (2 * l.wait) }) := Lib.hid (by rw [HL.out]; unfold lose2; rw [if_neg ht, Int.min_comm])
    clear ht
    go_wp2_with (fail)
    go_region
    all_goals (go_wp2_with (fail))
    exact bodyPost_end (v := .tuple #[]) (by simp [results, Tryz.results45, go_sem]) rfl (MPost.mk ((((H2.out.1.set7 2).drew).set14 (l.now + l.wait)).set13 (min 64000 (2 * l.wait))) ((((H2.out.2.setCell (.inl (by simp)) _).drew).setCell (.inl (by simp)) _).setCell (.inl (by simp)) _) HT.out.symm)
set_option maxHeartbeats 4000000 in
theorem rends_any (b : Nat) (c : Cl) (y : Mx) (w : World) (h : MAt w b c y) (hd : c.Bd) : Calls Tryz.prog 43 #[Ptr b] w (MPost (.tuple #[]) b w (endsF c) y) := by
  obtain ⟨c0, c1, c2, c3, c4, c5, c6, c7, c8, c9, c10, c11, c12, c13, c14, c15, c16, c17, c18, c19, c20, c21, c22, c23, c24, c25⟩ := h.cells
  have hf := h.free
  have H := Lib.hid h
  have HD := Lib.hid hd
  clear h hd
  by_cases h0 : 0 < c.skip
  · have HE : Hid (endsF c = failsF c 192) := Lib.hid (by unfold endsF; rw [if_pos h0])
    go_enter Tryz.func43, Tryz.ntmps43
    go_wp2_with (fail)
    refine (rfails_any b c y 192 w H.out).mono ?_
    rintro e w3 ⟨rfl, h3, k3⟩
    go_wp2_with (fail)
    exact bodyPost_ret (v := .tuple #[]) (by simp [results, Tryz.results43, go_sem]) rfl (MPost.mk h3 k3 HE.out.symm)
  have HE : Hid (endsF c = if (ends1 c).got = (ends1 c).total then { ends1 c with state := 3 } else losesF (ends1 c)) := Lib.hid (by unfold endsF; rw [if_neg h0])
  go_enter Tryz.func43, Tryz.ntmps43
  go_upto_if 13 with (fail)
  go_cut [13] from 14 to 20 (fun _ wx => MAt wx b (ends1 c) y ∧ Kept [b] w wx)
  case first =>
    by_cases ht : c.total < 0
    · have HL : Hid (ends1 c = { c with total := c.got }) := Lib.hid (by unfold ends1; rw [if_pos ht])
      go_wp2_with (fail)
      all_goals (go_meet)
      all_goals (refine ⟨?_, ?_⟩)
      all_goals first
        | exact ((Kept.refl _ _).setCell (.inl (by simp)) _)
        | (rw [HL.out]; exact (H.out.set10 c.got))
    · have HL : Hid (ends1 c = c) := Lib.hid (by unfold ends1; rw [if_neg ht])
      go_wp2_with (fail)
      all_goals go_meet
      exact ⟨by rw [HL.out]; exact H.out, Kept.refl _ _⟩
  case rest =>
  obtain ⟨h1, k1⟩ := hcut
  clear c0 c1 c2 c3 c4 c5 c6 c7 c8 c9 c10 c11 c12 c13 c14 c15 c16 c17 c18 c19 c20 c21 c22 c23 c24 c25 hf
  obtain ⟨l, hl⟩ : ∃ l, ends1 c = l := ⟨_, rfl⟩
  have hlb : l.Bd := by rw [← hl]; exact HD.out.ends1
  rw [hl] at h1 HE
  obtain ⟨c0, c1, c2, c3, c4, c5, c6, c7, c8, c9, c10, c11, c12, c13, c14, c15, c16, c17, c18, c19, c20, c21, c22, c23, c24, c25⟩ := h1.cells
  have hf := h1.free
  have H1 := Lib.hid (And.intro h1 (And.intro k1 hlb))
  clear h1 k1 hl hlb
  go_wp2_with (fail)
  go_quiet (fail)
  have h2 : MAt (wc.drewN nq) b l y := H1.out.1.drewN nq
  have k2 : Kept [b] w (wc.drewN nq) := H1.out.2.1.drewN _
  clear c0 c1 c2 c3 c4 c5 c6 c7 c8 c9 c10 c11 c12 c13 c14 c15 c16 c17 c18 c19 c20 c21 c22 c23 c24 c25 hf
  generalize wc.drewN nq = w2 at *
  obtain ⟨c0, c1, c2, c3, c4, c5, c6, c7, c8, c9, c10, c11, c12, c13, c14, c15, c16, c17, c18, c19, c20, c21, c22, c23, c24, c25⟩ := h2.cells
  have hf := h2.free
  have H2 := Lib.hid (And.intro h2 k2)
  clear h2 k2
  by_cases hg : l.got = l.total
  · have hgb : (l.got == l.total) = true := by simpa using hg
    have HT : Hid (endsF c = { l with state := 3 }) := Lib.hid (by rw [HE.out, if_pos hg])
    clear hg
    go_wp2_with (fail)
    all_goals exact bodyPost_ret (v := .tuple #[]) (by simp [results, Tryz.results43, go_sem]) rfl (MPost.mk (H2.out.1.set7 3) (H2.out.2.setCell (.inl (by simp)) _) HT.out.symm)
  · have hgb : (l.got == l.total) = false := by simpa using hg
    have HT : Hid (endsF c = losesF l) := Lib.hid (by rw [HE.out, if_neg hg])
    clear hg
    go_wp2_with (fail)
    refine (rloses_any b l y _ H2.out.1 H1.out.2.2).mono ?_
    rintro e w3 ⟨rfl, h3, k3⟩
    go_wp2_with (fail)
    exact bodyPost_end (v := .tuple #[]) (by simp [results, Tryz.results43, go_sem]) rfl (MPost.mk h3 (H2.out.2.trans' k3) HT.out.symm)
set_option maxHeartbeats 4000000 in
theorem rtick_any (b : Nat) (c : Cl) (y : Mx) (n : Int) (w : World) (h : MAt w b c y) (hd : c.Bd) (hn2 : n ≤ 9223372036854775807) : Calls Tryz.prog 23 #[Ptr b, I n] w (MPost (.tuple #[]) b w (tickF c n) y) := by
  obtain ⟨c0, c1, c2, c3, c4, c5, c6, c7, c8, c9, c10, c11, c12, c13, c14, c15, c16, c17, c18, c19, c20, c21, c22, c23, c24, c25⟩ := h.cells
  have hf := h.free
  have H := Lib.hid h
  have HD := Lib.hid hd
  clear h hd
  go_enter Tryz.func23, Tryz.ntmps23
  by_cases hn : n < 1
  · have HT : Hid (tickF c n = c) := Lib.hid (by unfold tickF; rw [if_pos hn])
    go_wp2_with (fail)
    exact bodyPost_ret (v := .tuple #[]) (by simp [results, Tryz.results23, go_sem]) rfl (MPost.mk H.out (Kept.refl _ _) HT.out.symm)
  have HT : Hid (tickF c n = tick2 (tick1 c n)) := Lib.hid (by unfold tickF; rw [if_neg hn])
  have hn1 : 1 ≤ n := by omega
  have hc1 := HD.out.n0
  have hc2 := HD.out.n1
  obtain ⟨m, hm⟩ : ∃ m, min n (1099511627776 - c.now) = m := ⟨_, rfl⟩
  have hm1 : 0 ≤ m ∧ m ≤ 1099511627776 := by omega
  obtain ⟨m1, m2⟩ := hm1
  have h2 := H.out.set11 (c.now + m)
  have ht1 : ({ c with now := c.now + m } : Cl) = tick1 c n := by unfold tick1; congr 1; omega
  rw [ht1] at h2
  have HB := Lib.hid (HD.out.tick1 n hn1)
  have HW := Lib.hid h2
  clear ht1 h2
  go_upto_region 2 with (fail)
  go_cut [] from 7 to 21 (fun wx => MAt wx b (tick1 c n) y ∧ Kept [b] w wx)
  case first =>
    go_region
    all_goals
      go_wp2
      go_meet
      refine ⟨?_, ?_⟩
      · first | exact HW.out | exact HW.out.drew
      · first | exact (Kept.refl _ _).setCell (.inl (by simp)) _ | exact (Kept.refl _ _).drew.setCell (.inl (by simp)) _ | exact ((Kept.refl _ _).setCell (.inl (by simp)) _).drew
  case rest =>
  obtain ⟨h2, k2⟩ := hcut
  clear c0 c1 c2 c3 c4 c5 c6 c7 c8 c9 c10 c11 c12 c13 c14 c15 c16 c17 c18 c19 c20 c21 c22 c23 c24 c25 hf
  obtain ⟨t, ht⟩ : ∃ t, tick1 c n = t := ⟨_, rfl⟩
  rw [ht] at h2 HT HB
  have b0 := HB.out.n0
  have b1 := HB.out.n1
  have b2 := HB.out.s0
  have b3 := HB.out.s1
  clear ht hc1 hc2 hn hm m1 m2 HW
  obtain ⟨c0, c1, c2, c3, c4, c5, c6, c7, c8, c9, c10, c11, c12, c13, c14, c15, c16, c17, c18, c19, c20, c21, c22, c23, c24, c25⟩ := h2.cells
  have hf := h2.free
  have H2 := Lib.hid (And.intro h2 k2)
  clear h2 k2
  have hways : (t.state = 2 ∧ t.wake ≤ t.now) ∨ (t.state = 2 ∧ t.now < t.wake) ∨ (t.state ≠ 2 ∧ t.state = 1 ∧ t.tmo ≤ t.now - t.last) ∨ (t.state ≠ 2 ∧ t.state = 1 ∧ t.now - t.last < t.tmo) ∨ (t.state ≠ 2 ∧ t.state ≠ 1) := by omega
  rcases hways with ⟨h1, h2⟩ | ⟨h1, h2⟩ | ⟨h1, h3, h2⟩ | ⟨h1, h3, h2⟩ | ⟨h1, h3⟩
  · have hs2 : (t.state == 2) = true := by simpa using h1
    have HF : Hid (tickF c n = { t with state := 0 }) := Lib.hid (by rw [HT.out]; unfold tick2; rw [if_pos ⟨h1, h2⟩])
    clear h1
    go_wp2_with (fail)
    go_quiet (fail)
    go_wp2_with (fail)
    exact bodyPost_end (v := .tuple #[]) (by simp [results, Tryz.results23, go_sem]) rfl (MPost.mk ((H2.out.1.drewN nq).set7 0) ((H2.out.2.drewN nq).setCell (.inl (by simp)) _) HF.out.symm)
  · have hs2 : (t.state == 2) = true := by simpa using h1
    have hs1 : (t.state == 1) = false := by simp; omega
    have h2f : decide (t.wake ≤ t.now) = false := decide_eq_false (by omega)
    have HF : Hid (tickF c n = t) := Lib.hid (by rw [HT.out]; unfold tick2; rw [if_neg (by omega), if_neg (by omega)])
    clear h1
    go_wp2_with (fail)
    go_quiet (fail)
    go_wp2_with (fail)
    go_quiet (fail)
    go_wp2_with (fail)
    exact bodyPost_end (v := .tuple #[]) (by simp [results, Tryz.results23, go_sem]) rfl (MPost.mk (by first | exact H2.out.1.drewN _ | exact (H2.out.1.drewN _).drewN _) (by first | exact H2.out.2.drewN _ | exact (H2.out.2.drewN _).drewN _) HF.out.symm)
  · have hs2 : (t.state == 2) = false := by simpa using h1
    have hs1 : (t.state == 1) = true := by simpa using h3
    have HF : Hid (tickF c n = losesF t) := Lib.hid (by rw [HT.out]; unfold tick2; rw [if_neg (by omega), if_pos ⟨h3, h2⟩])
    clear h1 h3
    go_wp2_with (fail)
    go_quiet (fail)
    go_wp2_with (fail)
    go_quiet (fail)
    go_wp2_with (fail)
    refine (rloses_any b t y _ (H2.out.1.drewN _) HB.out).mono ?_
    rintro e w3 ⟨rfl, h3, k3⟩
    go_wp2_with (fail)
    exact bodyPost_end (v := .tuple #[]) (by simp [results, Tryz.results23, go_sem]) rfl (MPost.mk h3 ((H2.out.2.drewN _).trans' k3) HF.out.symm)
  · have hs2 : (t.state == 2) = false := by simpa using h1
    have hs1 : (t.state == 1) = true := by simpa using h3
    have h2f : decide (t.tmo ≤ t.now - t.last) = false := decide_eq_false (by omega)
    have HF : Hid (tickF c n = t) := Lib.hid (by rw [HT.out]; unfold tick2; rw [if_neg (by omega), if_neg (by omega)])
    clear h1 h3
    go_wp2_with (fail)
    go_quiet (fail)
    go_wp2_with (fail)
    go_quiet (fail)
    go_wp2_with (fail)
    exact bodyPost_end (v := .tuple #[]) (by simp [results, Tryz.results23, go_sem]) rfl (MPost.mk (by first | exact H2.out.1.drewN _ | exact (H2.out.1.drewN _).drewN _) (by first | exact H2.out.2.drewN _ | exact (H2.out.2.drewN _).drewN _) HF.out.symm)
  · have hs2 : (t.state == 2) = false := by simpa using h1
    have hs1 : (t.state == 1) = false := by simpa using h3
    have HF : Hid (tickF c n = t) := Lib.hid (by rw [HT.out]; unfold tick2; rw [if_neg (by omega), if_neg (by omega)])
    clear h1 h3
    go_wp2_with (fail)
    go_quiet (fail)
    go_wp2_with (fail)
    go_quiet (fail)
    go_wp2_with (fail)
    exact bodyPost_end (v := .tuple #[]) (by simp [results, Tryz.results23, go_sem]) rfl (MPost.mk (by first | exact H2.out.1.drewN _ | exact (H2.out.1.drewN _).drewN _) (by first | exact H2.out.2.drewN _ | exact (H2.out.2.drewN _).drewN _) HF.out.symm)
def outX (c : Cl) (y : Mx) : Mx := if c.state = 0 then { y with raw := [], known := false, seen := 0 } else y
set_option maxHeartbeats 4000000 in
theorem rout_any (b : Nat) (c : Cl) (y : Mx) (w : World) (h : MAt w b c y) (hd : c.Bd) (hl : c.host.length ≤ 64 ∧ c.target.length ≤ 64) : Calls Tryz.prog 20 #[Ptr b] w (MPost (S (outF c).2) b w (outF c).1 (outX c y)) := by
  obtain ⟨c0, c1, c2, c3, c4, c5, c6, c7, c8, c9, c10, c11, c12, c13, c14, c15, c16, c17, c18, c19, c20, c21, c22, c23, c24, c25⟩ := h.cells
  have hf := h.free
  have H := Lib.hid h
  have HD := Lib.hid hd
  have g1 : -9223372036854775808 ≤ c.got := by have := hd.f0; have := hd.g0; omega
  have g2 : c.got ≤ 9223372036854775807 := by have := hd.g1; have := hd.l1; omega
  obtain ⟨rq, q, hq⟩ : ∃ rq q, reqF c.host c.target c.got = (rq, q) := ⟨_, _, rfl⟩
  have HRQ := Lib.hid (fun W => rrequest_any c.host c.target c.got W g1 g2 (by omega) (by omega) (rq, q) hq)
  clear h hd
  go_enter Tryz.func20, Tryz.ntmps20
  by_cases h0 : c.state = 0
  case neg =>
    have hb : (c.state != 0) = true := by simpa using h0
    have HO : Hid (outF c = (c, []) ∧ outX c y = y) := Lib.hid (by unfold outF outX; rw [if_neg h0, if_neg h0]; exact ⟨rfl, rfl⟩)
    clear h0
    go_wp2_with (fail)
    go_ret
    rw [HO.out.1, HO.out.2]
    exact ⟨rfl, H.out, Kept.refl _ _⟩
  case pos =>
  have hb : (c.state != 0) = false := by simpa using h0
  have HO : Hid (outF c = ({ c with state := 1, began := c.got, last := c.now, head := [], body := none, skip := 0, left := -1 }, rq) ∧ outX c y = { y with raw := [], known := false, seen := 0 }) := Lib.hid (by unfold outF outX; rw [if_pos h0, if_pos h0, hq]; exact ⟨rfl, rfl⟩)
  clear h0 hq
  go_upto_region 3 with (fail)
  go_cut [3, 4] from 10 to 27 (fun v3 v4 wx => v3 = S rq ∧ v4 = I q ∧ MAt wx b c y ∧ Kept [b] w wx)
  case first =>
    go_region_with (first | (go_at_call 37; (with_reducible refine (HRQ.out _).mono ?_); rintro e w3 ⟨rfl, k3⟩))
    all_goals
      go_wp2
      go_meet
      have k4 := (Kept.refl [] w).drew.trans' k3
      exact ⟨rfl, rfl, H.out.kept k4 (by simp), k4.mono (by simp)⟩
  case rest =>
  obtain ⟨rfl, rfl, h2, k2⟩ := hcut
  clear c0 c1 c2 c3 c4 c5 c6 c7 c8 c9 c10 c11 c12 c13 c14 c15 c16 c17 c18 c19 c20 c21 c22 c23 c24 c25 hf
  obtain ⟨c0, c1, c2, c3, c4, c5, c6, c7, c8, c9, c10, c11, c12, c13, c14, c15, c16, c17, c18, c19, c20, c21, c22, c23, c24, c25⟩ := h2.cells
  have hf := h2.free
  have H2 := Lib.hid (And.intro h2 k2)
  clear h2 k2
  go_wp2_with (fail)
  go_ret
  rw [HO.out.1, HO.out.2]
  refine ⟨rfl, ?_, ?_⟩
  · exact ⟨((((((((H2.out.1.set7 1).set15 c.got).set16 c.now).set17 []).set18 false).set23 0).set24 0).set25 (-1)).blk⟩
  · exact (((((((H2.out.2.setCell (.inl (by simp)) _).setCell (.inl (by simp)) _).setCell (.inl (by simp)) _).setCell (.inl (by simp)) _).setCell (.inl (by simp)) _).setCell (.inl (by simp)) _).setCell (.inl (by simp)) _).setCell (.inl (by simp)) _
/-! ### digits -/
theorem all_snoc {l : List UInt8} {k : Nat} (h : (l.take k).all BD.isDig = true) (hk : k < l.length) (hd : BD.isDig (byteAt l k) = true) : (l.take (k + 1)).all BD.isDig = true := by
  rw [List.take_succ_eq_append_getElem hk, List.all_append, h]
  rw [byteAt_eq l k hk] at hd
  simp [hd]
theorem take_while_at {l : List UInt8} {k : Nat} (h : (l.take k).all BD.isDig = true) (hk : k ≤ l.length) (he : k < l.length → BD.isDig (byteAt l k) = false) : l.takeWhile BD.isDig = l.take k := by
  have e : l = l.take k ++ l.drop k := (List.take_append_drop k l).symm
  conv => lhs; rw [e]
  rw [List.takeWhile_append_of_pos (by intro a ha; exact List.all_eq_true.1 h a ha)]
  have : (l.drop k).takeWhile BD.isDig = [] := by
    by_cases hlt : k < l.length
    · rw [List.drop_eq_getElem_cons hlt, List.takeWhile_cons, if_neg]
      rw [← byteAt_eq l k hlt, he hlt]; decide
    · rw [List.drop_of_length_le (by omega)]; rfl
  rw [this, List.append_nil]
theorem dig_long {l : List UInt8} (h : (l.take 10).all BD.isDig = true) (hl : 10 ≤ l.length) : digF l = (-1, []) := by
  have e : l = l.take 10 ++ l.drop 10 := (List.take_append_drop 10 l).symm
  have : 10 ≤ (l.takeWhile BD.isDig).length := by
    conv => rhs; rw [e]
    rw [List.takeWhile_append_of_pos (by intro a ha; exact List.all_eq_true.1 h a ha), List.length_append, List.length_take]
    omega
  unfold digF
  rw [if_pos (.inr (by omega))]
theorem dig_here {l : List UInt8} {k : Nat} (h : (l.take k).all BD.isDig = true) (hk : k ≤ l.length) (h9 : k ≤ 9) (he : k < l.length → BD.isDig (byteAt l k) = false) : digF l = if k = 0 then (-1, []) else (BD.digs (l.take k), l.drop k) := by
  unfold digF
  rw [take_while_at h hk he]
  by_cases h0 : k = 0
  · subst h0; rw [if_pos (.inl (by simp)), if_pos rfl]
  · rw [if_neg h0, if_neg]
    · rw [List.length_take, Nat.min_eq_left hk]
    · rintro (h1 | h1)
      · have h2 : (l.take k).length = 0 := by rw [h1]; rfl
        rw [List.length_take] at h2; omega
      · rw [List.length_take] at h1; omega
theorem digs_next {l : List UInt8} {k : Nat} (hk : k < l.length) : BD.digs (l.take (k + 1)) = 10 * BD.digs (l.take k) + (((byteAt l k).toNat : Int) - 48) := by
  rw [List.take_succ_eq_append_getElem hk, BD.digs_snoc, byteAt_eq l k hk]
set_option maxHeartbeats 4000000 in
theorem rdigits_any (l : List UInt8) (w : World) (hl : l.length ≤ 4611686018427387904) :
    Calls Tryz.prog 102 #[S l] w fun e w' => e = .returned (.tuple #[I (digF l).1, S (digF l).2]) ∧ Kept [] w w' := by
  have hlI : (l.length : Int) ≤ 4611686018427387904 := by omega
  go_enter Tryz.func102, Tryz.ntmps102
  go_wp2_with (fail)
  go_loop [4, 5] (fun n i => ∃ k : Nat, k ≤ l.length ∧ k ≤ 9 ∧ i = I k ∧ n = I (BD.digs (l.take k)) ∧ (l.take k).all BD.isDig = true) (fun _ i => l.length - (intOf i).toNat)
  case atStart => exact ⟨0, by omega, by omega, rfl, rfl, rfl⟩
  case round =>
    obtain ⟨k, hk, hk9, rfl, rfl, hall⟩ := hrel
    have hbd := BD.digs_bd (l.take k) hall k (by simp; omega)
    rw [List.take_take, Nat.min_self] at hbd
    have hp : (10 ^ k : Nat) ≤ 10 ^ 9 := Nat.pow_le_pow_right (by omega) hk9
    obtain ⟨hb0, hb1⟩ : 0 ≤ BD.digs (l.take k) ∧ BD.digs (l.take k) < 1000000000 := by omega
    have HA := Lib.hid hall
    clear hall hbd hp
    have hk0 : (0 : Int) ≤ k := by omega
    have hkI : (k : Int) ≤ l.length := by omega
    obtain ⟨c, hc⟩ : ∃ c, byteAt l k = c := ⟨_, rfl⟩
    have hcl : c.toNat < 256 := c.toNat_lt
    have hways : (k < l.length ∧ BD.isDig c = true) ∨ (k < l.length ∧ BD.isDig c = false) ∨ k = l.length := by
      cases BD.isDig c <;> simp <;> omega
    rcases hways with ⟨h1, h2⟩ | ⟨h1, h2⟩ | h1
    · have hdg : 48 ≤ c.toNat ∧ c.toNat ≤ 57 := by unfold BD.isDig at h2; exact of_decide_eq_true h2
      have h1' : (k : Int) < l.length := by omega
      have d1 : (48 : Int) ≤ c.toNat := by omega
      have d2 : (c.toNat : Int) ≤ 57 := by omega
      have HS := Lib.hid (all_snoc HA.out h1 (by rw [hc]; exact h2))
      have HN := Lib.hid (digs_next (k := k) h1)
      have HH := Lib.hid h2
      rw [hc] at HN
      clear h2
      by_cases h9 : k = 9
      · have HE : Hid (digF l = (-1, [])) := Lib.hid (by subst h9; exact dig_long HS.out (by omega))
        subst h9
        go_wp2_with (fail)
        go_ret2
        rw [HE.out]
        exact ⟨rfl, Kept.refl _ _⟩
      · have h9' : ((k : Int) == 9) = false := by rw [beq_eq_false_iff_ne]; omega
        have h9l : k < 9 := by omega
        clear h9
        generalize BD.digs (l.take k) = d at *
        go_wp2_with (fail)
        go_round
        case rel => exact ⟨k + 1, by omega, by omega, by go_num, by rw [HN.out], HS.out⟩
        case measure => simp [intOf]; omega
    · have h1' : (k : Int) < l.length := by omega
      have HE : Hid (digF l = if k = 0 then (-1, []) else (BD.digs (l.take k), l.drop k)) := Lib.hid (dig_here HA.out hk hk9 (fun _ => by rw [hc]; exact h2))
      have hdg : c.toNat < 48 ∨ 57 < c.toNat := by
        unfold BD.isDig at h2
        have := of_decide_eq_false h2
        omega
      clear h2
      by_cases h0 : k = 0
      · subst h0
        rcases hdg with hd | hd
        · have d1 : decide ((48 : Int) ≤ c.toNat) = false := decide_eq_false (by omega)
          go_wp2_with (fail)
          go_ret2
          rw [HE.out]
          exact ⟨rfl, Kept.refl _ _⟩
        · have d1 : (48 : Int) ≤ c.toNat := by omega
          have d2 : decide ((c.toNat : Int) ≤ 57) = false := decide_eq_false (by omega)
          go_wp2_with (fail)
          go_ret2
          rw [HE.out]
          exact ⟨rfl, Kept.refl _ _⟩
      · have h0' : ((k : Int) == 0) = false := by rw [beq_eq_false_iff_ne]; omega
        rw [if_neg h0] at HE
        clear h0
        rcases hdg with hd | hd
        · have d1 : decide ((48 : Int) ≤ c.toNat) = false := decide_eq_false (by omega)
          go_wp2_with (fail)
          go_quiet (fail)
          go_wp2_with (fail)
          go_ret2
          rw [HE.out]
          exact ⟨rfl, (Kept.refl _ _).drewN _⟩
        · have d1 : (48 : Int) ≤ c.toNat := by omega
          have d2 : decide ((c.toNat : Int) ≤ 57) = false := decide_eq_false (by omega)
          go_wp2_with (fail)
          go_quiet (fail)
          go_wp2_with (fail)
          go_ret2
          rw [HE.out]
          exact ⟨rfl, (Kept.refl _ _).drewN _⟩
    · have HE : Hid (digF l = if k = 0 then (-1, []) else (BD.digs (l.take k), l.drop k)) := Lib.hid (dig_here HA.out hk hk9 (fun h => by omega))
      have hlt : ¬ (k : Int) < l.length := by omega
      by_cases h0 : k = 0
      · rw [if_pos h0] at HE
        subst h0
        go_wp2_with (fail)
        go_ret2
        rw [HE.out]
        exact ⟨rfl, Kept.refl _ _⟩
      · have h0' : ((k : Int) == 0) = false := by rw [beq_eq_false_iff_ne]; omega
        rw [if_neg h0] at HE
        clear h0 h1
        go_wp2_with (fail)
        go_quiet (fail)
        go_wp2_with (fail)
        go_ret2
        rw [HE.out]
        exact ⟨rfl, (Kept.refl _ _).drewN _⟩
end CL
end
section
namespace CL
set_option maxHeartbeats 8000000
set_option maxRecDepth 100000
/-! ### Range -/
theorem dig_le (s : List UInt8) : (digF s).2.length ≤ s.length := by
  unfold digF; split <;> simp
def RgPost (r : Int × Int × Int × Bool) (w : World) (e : Ending) (w' : World) : Prop := e = .returned (.tuple #[I r.1, I r.2.1, I r.2.2.1, .bool r.2.2.2]) ∧ Kept [] w w'
set_option maxHeartbeats 4000000 in
theorem rrange_any (s : List UInt8) (w : World) (hl : s.length ≤ 4611686018427387904) : Calls Tryz.prog 72 #[S s] w (RgPost (rangeF s) w) := by
  have hlI : (s.length : Int) ≤ 4611686018427387904 := by omega
  obtain ⟨a, r1, e1⟩ : ∃ a r, digF (s.drop 6) = (a, r) := ⟨_, _, rfl⟩
  obtain ⟨b, r2, e2⟩ : ∃ a r, digF (r1.drop 1) = (a, r) := ⟨_, _, rfl⟩
  obtain ⟨t, r3, e3⟩ : ∃ a r, digF (r2.drop 1) = (a, r) := ⟨_, _, rfl⟩
  have l1 := dig_le (s.drop 6)
  rw [e1, List.length_drop] at l1
  have l2 := dig_le (r1.drop 1)
  rw [e2, List.length_drop] at l2
  simp only at l1 l2
  have HD1 := Lib.hid (fun W => rdigits_any (s.drop 6) W (by simp; omega))
  have HD2 := Lib.hid (fun W => rdigits_any (r1.drop 1) W (by simp; omega))
  have HD3 := Lib.hid (fun W => rdigits_any (r2.drop 1) W (by simp; omega))
  rw [e1] at HD1
  rw [e2, List.drop_one] at HD2
  rw [e3, List.drop_one] at HD3
  have HR : Hid (rangeF s = if s.length < 6 ∨ s.take 6 ≠ bytesL then (0, 0, 0, false) else if a < 0 ∨ r1 = [] ∨ byteAt r1 0 ≠ 45 then (0, 0, 0, false) else if b < a ∨ r2 = [] ∨ byteAt r2 0 ≠ 47 then (0, 0, 0, false) else (a, b, t, decide (b < t ∧ r3 = []))) := Lib.hid (by unfold rangeF; simp only [e1, e2, e3])
  clear e1 e2 e3
  have l1I : (r1.length : Int) ≤ s.length := by omega
  have l2I : (r2.length : Int) ≤ s.length := by omega
  go_enter Tryz.func72, Tryz.ntmps72
  by_cases h6 : s.length < 6
  · have hX : Hid (rangeF s = (0, 0, 0, false)) := Lib.hid (by rw [HR.out, if_pos (.inl h6)])
    have h6' : (s.length : Int) < 6 := by omega
    go_wp2_with (fail)
    go_returns
    rw [hX.out]; exact ⟨rfl, Kept.refl _ _⟩
  have h6' : (6 : Int) ≤ s.length := by omega
  have h6d : decide ((s.length : Int) < 6) = false := decide_eq_false (by omega)
  by_cases ht : s.take 6 = bytesL
  case neg =>
    have hX : Hid (rangeF s = (0, 0, 0, false)) := Lib.hid (by rw [HR.out, if_pos (.inr ht)])
    have htb : (s.take 6 == [98, 121, 116, 101, 115, 32]) = false := by simpa [bytesL] using ht
    clear ht
    go_wp2_with (fail)
    go_returns
    rw [hX.out]; exact ⟨rfl, Kept.refl _ _⟩
  have htb : (s.take 6 == [98, 121, 116, 101, 115, 32]) = true := by simpa [bytesL] using ht
  have HR1 : Hid (rangeF s = if a < 0 ∨ r1 = [] ∨ byteAt r1 0 ≠ 45 then (0, 0, 0, false) else if b < a ∨ r2 = [] ∨ byteAt r2 0 ≠ 47 then (0, 0, 0, false) else (a, b, t, decide (b < t ∧ r3 = []))) := Lib.hid (by rw [HR.out, if_neg (by simp [h6, ht])])
  clear ht h6 HR
  go_wp2_with (fail)
  refine (HD1.out _).mono ?_
  rintro e w1 ⟨rfl, k1⟩
  have K1 := Lib.hid k1
  clear k1
  by_cases a0 : a < 0
  · have hX : Hid (rangeF s = (0, 0, 0, false)) := Lib.hid (by rw [HR1.out, if_pos (.inl a0)])
    go_wp2_with (fail)
    go_returns
    rw [hX.out]; exact ⟨rfl, K1.out⟩
  have a0' : decide (a < 0) = false := decide_eq_false a0
  by_cases r0 : r1 = []
  · have hX : Hid (rangeF s = (0, 0, 0, false)) := Lib.hid (by rw [HR1.out, if_pos (.inr (.inl r0))])
    subst r0
    go_wp2_with (fail)
    go_returns
    rw [hX.out]; exact ⟨rfl, K1.out⟩
  have r0a : r1.isEmpty = false := by simpa using r0
  have r0b : (r1 == []) = false := by simpa using r0
  have r0c : (0 : Int) < r1.length := by have := List.length_pos_iff.2 r0; omega
  have r0d : (1 : Int) ≤ r1.length := by omega
  by_cases q0 : byteAt r1 0 = 45
  case neg =>
    have hX : Hid (rangeF s = (0, 0, 0, false)) := Lib.hid (by rw [HR1.out, if_pos (.inr (.inr q0))])
    have q0' : (((byteAt r1 0).toNat : Int) != 45) = true := by
      simp only [bne_iff_ne, ne_eq]
      intro h
      exact q0 (UInt8.toNat_inj.1 (by have : (byteAt r1 0).toNat = 45 := by omega
                                      rw [this]; rfl))
    clear q0
    go_wp2_with (fail)
    go_returns
    rw [hX.out]; exact ⟨rfl, K1.out⟩
  have q0' : (((byteAt r1 0).toNat : Int) != 45) = false := by rw [q0]; rfl
  have HR2 : Hid (rangeF s = if b < a ∨ r2 = [] ∨ byteAt r2 0 ≠ 47 then (0, 0, 0, false) else (a, b, t, decide (b < t ∧ r3 = []))) := Lib.hid (by rw [HR1.out, if_neg (by simp [a0, r0, q0])])
  clear a0 r0 q0 HR1
  go_wp2_with (fail)
  refine (HD2.out _).mono ?_
  rintro e w2 ⟨rfl, k2⟩
  have K2 := Lib.hid (K1.out.trans' k2)
  clear k2 a0' r0a r0b q0'
  by_cases a0 : b < a
  · have hX : Hid (rangeF s = (0, 0, 0, false)) := Lib.hid (by rw [HR2.out, if_pos (.inl a0)])
    go_wp2_with (fail)
    go_returns
    rw [hX.out]; exact ⟨rfl, K2.out⟩
  have a0' : decide (b < a) = false := decide_eq_false a0
  by_cases r0 : r2 = []
  · have hX : Hid (rangeF s = (0, 0, 0, false)) := Lib.hid (by rw [HR2.out, if_pos (.inr (.inl r0))])
    subst r0
    go_wp2_with (fail)
    go_returns
    rw [hX.out]; exact ⟨rfl, K2.out⟩
  have r0a : r2.isEmpty = false := by simpa using r0
  have r0b : (r2 == []) = false := by simpa using r0
  have r0e : (0 : Int) < r2.length := by have := List.length_pos_iff.2 r0; omega
  have r0f : (1 : Int) ≤ r2.length := by omega
  by_cases q0 : byteAt r2 0 = 47
  case neg =>
    have hX : Hid (rangeF s = (0, 0, 0, false)) := Lib.hid (by rw [HR2.out, if_pos (.inr (.inr q0))])
    have q0' : (((byteAt r2 0).toNat : Int) != 47) = true := by
      simp only [bne_iff_ne, ne_eq]
      intro h
      exact q0 (UInt8.toNat_inj.1 (by have : (byteAt r2 0).toNat = 47 := by omega
                                      rw [this]; rfl))
    clear q0
    go_wp2_with (fail)
    go_returns
    rw [hX.out]; exact ⟨rfl, K2.out⟩
  have q0' : (((byteAt r2 0).toNat : Int) != 47) = false := by rw [q0]; rfl
  have HR3 : Hid (rangeF s = (a, b, t, decide (b < t ∧ r3 = []))) := Lib.hid (by rw [HR2.out, if_neg (by simp [a0, r0, q0])])
  clear a0 r0 q0 HR2
  go_wp2_with (fail)
  refine (HD3.out _).mono ?_
  rintro e w3 ⟨rfl, k3⟩
  have K3 := Lib.hid (K2.out.trans' k3)
  clear k3 a0' r0a r0b q0'
  by_cases h3 : b < t
  · by_cases h4 : r3 = []
    · have hX : Hid (rangeF s = (a, b, t, true)) := Lib.hid (by rw [HR3.out, decide_eq_true ⟨h3, h4⟩])
      subst h4
      go_wp2_with (fail)
      go_returns
      rw [hX.out]; exact ⟨rfl, K3.out⟩
    · have hX : Hid (rangeF s = (a, b, t, false)) := Lib.hid (by rw [HR3.out, decide_eq_false (fun h => h4 h.2)])
      have r0a : r3.isEmpty = false := by simpa using h4
      have r0b : (r3 == []) = false := by simpa using h4
      clear h4
      go_wp2_with (fail)
      go_returns
      rw [hX.out]; exact ⟨rfl, K3.out⟩
  · have hX : Hid (rangeF s = (a, b, t, false)) := Lib.hid (by rw [HR3.out, decide_eq_false (fun h => h3 h.1)])
    have h3' : decide (b < t) = false := decide_eq_false h3
    clear h3
    go_wp2_with (fail)
    go_returns
    rw [hX.out]; exact ⟨rfl, K3.out⟩
end CL
end
end Go.Proofs.YtgdncdhalnijcaaGreatDoor
