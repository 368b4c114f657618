/- Walks and lemmas on the program of this seat, used by its statements; each theorem bears its own conditions. -/
import Derived.Test.YtgdncdhalnijcaaDoorReA
import Derived.Test.YtgdncdhalnijcaaDoorRdP
namespace Go.Proofs.YtgdncdhalnijcaaDoor
open Go.RowKit
set_option linter.unusedVariables false
set_option linter.unusedSimpArgs false
namespace BD
/-! ### What Run says: pure -/
def kindF (st : Int) (names values : List (List UInt8)) : Int × Int × Int :=
  if st < 200 ∨ st = 204 ∨ st = 304 then (0, 0, 0)
  else if 0 < (getF names values teName).2 then
    (if 1 < (getF names values teName).2 ∨ 0 < (getF names values clName).2 ∨ isChunked (getF names values teName).1 = false then (0, 0, 180) else (1, -1, 0))
  else if 0 < (getF names values clName).2 then
    (if 1 < (getF names values clName).2 ∨ lengthF (getF names values clName).1 < 0 then (0, 0, 180)
     else if 1048576 < lengthF (getF names values clName).1 then (0, 0, 181)
     else (2, lengthF (getF names values clName).1, 0))
  else (3, -1, 0)
def rdN : Rd := { rdNil with state := 11 }
def rdZ (n : Int) : Rd := { rdNil with state := if n = 0 then 11 else 0, size := n, left := n }
def rdP : Rd := { rdNil with state := 1, size := -1 }
def KindOf (kd sz : Int) (R : Rd) : Prop := (kd = 0 ∧ sz = 0 ∧ R = rdN) ∨ (kd = 1 ∧ sz = -1 ∧ R = rdC) ∨ (kd = 2 ∧ 0 ≤ sz ∧ sz ≤ 1048576 ∧ R = rdZ sz) ∨ (kd = 3 ∧ sz = -1 ∧ R = rdP)
theorem kind_new (st : Int) (names values : List (List UInt8)) :
    (∃ k, newF st names values = (none, k) ∧ k ≠ 0 ∧ kindF st names values = (0, 0, k)) ∨ (∃ kd sz R, newF st names values = (some R, 0) ∧ kindF st names values = (kd, sz, 0) ∧ KindOf kd sz R) := by
  unfold newF kindF
  by_cases h1 : st < 200 ∨ st = 204 ∨ st = 304
  · rw [if_pos h1, if_pos h1]; exact .inr ⟨_, _, _, rfl, rfl, .inl ⟨rfl, rfl, rfl⟩⟩
  rw [if_neg h1, if_neg h1]
  by_cases h2 : 0 < (getF names values teName).2
  · rw [if_pos h2, if_pos h2]
    by_cases h3 : 1 < (getF names values teName).2 ∨ 0 < (getF names values clName).2 ∨ isChunked (getF names values teName).1 = false
    · rw [if_pos h3, if_pos h3]; exact .inl ⟨_, rfl, by decide, rfl⟩
    · rw [if_neg h3, if_neg h3]; exact .inr ⟨_, _, _, rfl, rfl, .inr (.inl ⟨rfl, rfl, rfl⟩)⟩
  rw [if_neg h2, if_neg h2]
  by_cases h3 : 0 < (getF names values clName).2
  · rw [if_pos h3, if_pos h3]
    by_cases h4 : 1 < (getF names values clName).2 ∨ lengthF (getF names values clName).1 < 0
    · rw [if_pos h4, if_pos h4]; exact .inl ⟨_, rfl, by decide, rfl⟩
    rw [if_neg h4, if_neg h4]
    by_cases h5 : 1048576 < lengthF (getF names values clName).1
    · rw [if_pos h5, if_pos h5]; exact .inl ⟨_, rfl, by decide, rfl⟩
    rw [if_neg h5, if_neg h5]
    exact .inr ⟨_, _, _, rfl, rfl, .inr (.inr (.inl ⟨rfl, by omega, by omega, rfl⟩))⟩
  · rw [if_neg h3, if_neg h3]; exact .inr ⟨_, _, _, rfl, rfl, .inr (.inr (.inr ⟨rfl, rfl, rfl⟩))⟩
/-- The four answers of Run. -/
def RunIs (R0 : Rd) (s out : List UInt8) (used : Int) (d : Bool) (k : Int) : Prop :=
  ∃ r, feeds R0 s = (r, out, k) ∧ d = decide (k = 0 ∧ r.state = 11) ∧ (d = true → used = (s.length : Int) - r.rest.length)
theorem run_none (s : List UInt8) : RunIs rdN s [] 0 true 0 := by
  refine ⟨_, feeds_done s rdN rfl, by simp [rdN], fun _ => by simp [rdN, rdNil]⟩
theorem run_open (s : List UInt8) : RunIs rdP s (if 1048576 < s.length then [] else s) (if 1048576 < s.length then 0 else s.length) false (if 1048576 < s.length then 181 else 0) := by
  have h := feeds_open s rdP rfl (by simp [rdP, rdNil]) (by simp [rdP, rdNil])
  by_cases hl : 1048576 < s.length
  · rw [if_neg (by simp [rdP, rdNil]; omega)] at h
    rw [if_pos hl, if_pos hl, if_pos hl]
    exact ⟨_, h, by simp [rdP], by simp⟩
  · rw [if_pos (by simp [rdP, rdNil]; omega)] at h
    rw [if_neg hl, if_neg hl, if_neg hl]
    exact ⟨_, h, by simp [rdP], by simp⟩
theorem run_sized (s : List UInt8) (n : Int) (hn : 0 ≤ n) : RunIs (rdZ n) s (s.take (min n s.length).toNat) (min n s.length) (min n s.length == n) 0 := by
  by_cases h0 : n = 0
  · subst h0
    have h1 : min (0 : Int) s.length = 0 := by omega
    rw [h1]
    exact ⟨_, feeds_done s (rdZ 0) rfl, by simp [rdZ], fun _ => by simp [rdZ, rdNil]⟩
  have hst : (rdZ n).state = 0 := by simp [rdZ, h0]
  by_cases hle : (s.length : Int) ≤ n
  · have h1 : min n (s.length : Int) = s.length := by omega
    rw [h1]
    by_cases hs : s = []
    · subst hs
      refine ⟨_, feeds_nil _, ?_, ?_⟩
      · simp [hst]; omega
      · simp; omega
    · have h2 := feeds_some 0 s (rdZ n) hst (.inl rfl) (by show 0 < n; omega) hs hle
      have e1 : (if (rdZ n).left - (s.length : Int) = 0 then if (rdZ n).state = 0 then (11 : Int) else 5 else (rdZ n).state) = if (s.length : Int) = n then 11 else 0 := by
        rw [hst]
        by_cases h3 : (s.length : Int) = n
        · rw [if_pos (by show n - (s.length : Int) = 0; omega), if_pos h3, if_pos rfl]
        · rw [if_neg (by show ¬ n - (s.length : Int) = 0; omega), if_neg h3]
      rw [e1] at h2
      have e2 : s.take ((s.length : Int)).toNat = s := List.take_of_length_le (by omega)
      rw [e2]
      refine ⟨_, h2, ?_, ?_⟩
      · by_cases h3 : (s.length : Int) = n <;> simp [h3]
      · intro _; simp [rdZ, rdNil]
  · have h1 : min n (s.length : Int) = n := by omega
    rw [h1]
    have hl : (s.take n.toNat).length = n.toNat := by simp; omega
    have h2 := feeds_some 0 (s.take n.toNat) (rdZ n) hst (.inl rfl) (by show 0 < n; omega) (by intro h; rw [h] at hl; simp at hl; omega) (by rw [hl]; show ((n.toNat : Nat) : Int) ≤ n; omega)
    rw [if_pos (by rw [hl]; show n - ((n.toNat : Nat) : Int) = 0; omega), if_pos hst] at h2
    have h3 := feeds_done (s.drop n.toNat) _ (show ({ rdZ n with left := (rdZ n).left - ((s.take n.toNat).length : Int), told := (rdZ n).told + ((s.take n.toNat).length : Int), state := 11 } : Rd).state = 11 from rfl)
    have h4 := feeds_go h2 h3
    rw [List.take_append_drop, if_pos rfl, List.append_nil] at h4
    refine ⟨_, h4, by simp, ?_⟩
    intro _
    simp [rdZ, rdNil]; omega
theorem ended_run {x : Xr} {out : List UInt8} (h : Ended x out) : (x.e ≠ 0 → RunIs rdC x.s [] 0 false x.e) ∧ (x.e = 0 → x.short = true ∧ RunIs rdC x.s out x.pos false 0) := by
  rcases h with ⟨h1, h2, r, h3, h4⟩ | ⟨h1, _, h3⟩
  · exact ⟨fun h => absurd h2 h, fun _ => ⟨h1, r, h3, by simp [h4], by simp⟩⟩
  · exact ⟨fun _ => ⟨(feeds rdC x.s).1, by rw [← h3], by simp [h1], by simp⟩, fun h => absurd h h1⟩
theorem done_run {x : Xr} {out : List UInt8} {r : Rd} (h : Seen x out r) (hs : r.state = 11) (hr : r.rest = []) : RunIs rdC x.s out x.pos true 0 := by
  have h2 := feeds_go h.2 (feeds_done (x.s.drop x.pos) r hs)
  rw [List.take_append_drop, if_pos rfl, List.append_nil] at h2
  refine ⟨_, h2, by simp [hs], fun _ => ?_⟩
  have := h.1
  simp [hr]; omega
/-! ### The steps of Run's loop: pure -/
def rdT (n : Nat) : Rd := { rdC with told := n }
theorem Ended.next {x : Xr} {out : List UInt8} (h : Ended x out) : Ended (nextF x) out := by
  have ho := h.not_ok
  unfold nextF
  by_cases hp : (x.pos : Int) < x.s.length
  · rw [if_pos hp, if_neg (by simp [ho])]; exact h
  · rw [if_neg hp]
    rcases h with ⟨h1, h2, h3⟩ | ⟨h1, h2⟩
    · exact .inl ⟨rfl, h2, h3⟩
    · exact .inr ⟨h1, h2⟩
theorem Ended.must {x : Xr} {out : List UInt8} (h : Ended x out) (q : Bool) (k : Int) : Ended (mustF x q k) out := by
  unfold mustF; rw [if_neg (by simp [h.not_ok])]; exact h
theorem next_s (x : Xr) : (nextF x).s = x.s ∧ (nextF x).sv = x.sv := by unfold nextF; (repeat' split) <;> exact ⟨rfl, rfl⟩
theorem must_s (x : Xr) (q : Bool) (k : Int) : (mustF x q k).s = x.s ∧ (mustF x q k).sv = x.sv := by unfold mustF; split <;> exact ⟨rfl, rfl⟩
/-- Within a chunk of n bytes: i of them were read. -/
def InChunk (x : Xr) (out : List UInt8) (n : Int) (i : Nat) : Prop :=
  x.e = 0 ∧ x.short = false ∧ 0 < n ∧ (i : Int) ≤ n ∧ (out.length : Int) + (n - i) ≤ 1048576 ∧ Seen x out { rdC with told := out.length, state := if (i : Int) = n then 5 else 4, left := n - i, many := 0 }
theorem num_must {x : Xr} {out : List UInt8} {n : Int} {q : Bool} (h : Ended x out ∨ NumDone x out (rdT out.length) n) (hq : q = decide (n ≤ 1048576 - (out.length : Int))) (hl : out.length ≤ 1048576) :
    Ended (mustF x q 181) out ∨ (okX (mustF x q 181) = true ∧ (n = 0 → AtLine (mustF x q 181) out 0) ∧ (n ≠ 0 → InChunk (mustF x q 181) out n 0)) := by
  rcases h with h | ⟨h1, h2, h3, h4, p, m, h5, h6, h7, h8⟩
  · exact .inl (h.must _ _)
  have ho : okX x = true := by simp [okX, h1, h2]
  have hf := in3_10 { rdT out.length with state := 3, left := n, many := m } (x.s.getD p 0) rfl h7
  have hb : beginsF { rdT out.length with state := 4, left := n, many := m } = if n = 0 then ({ rdT out.length with state := 7, left := n, many := 0 }, 0) else if n > 1048576 - (out.length : Int) then ({ rdT out.length with state := 4, left := n, many := 0 }, 181) else ({ rdT out.length with state := 4, left := n, many := 0 }, 0) := by
    unfold beginsF
    simp only
    by_cases g1 : n = 0
    · simp [g1]
    · by_cases g2 : n > 1048576 - (out.length : Int)
      · simp [g1, rdT, g2]
      · simp [g1, rdT, g2]
  have hx : { x with pos := p + 1 } = x := by cases x; simp at h5 ⊢; exact h5.symm
  by_cases hn0 : n = 0
  · have hqt : q = true := by rw [hq]; simp; omega
    have hm : mustF x q 181 = x := by unfold mustF; rw [if_neg (by simp [hqt])]
    rw [hm]
    refine .inr ⟨ho, fun _ => ?_, fun h => absurd hn0 h⟩
    rw [if_pos hn0] at hb
    have hb' : beginsF { rdT out.length with state := 4, left := n, many := m } = ({ rdT out.length with state := 7, left := n, many := 0 }, 0) := hb
    have h9 := h8.step (x := { x with pos := p }) h6 (show feed _ (x.s.getD p 0) = _ by rw [hf]; show ((beginsF { rdT out.length with state := 4, left := n, many := m }).1, ([] : List UInt8), (beginsF { rdT out.length with state := 4, left := n, many := m }).2) = _; rw [hb'])
    rw [List.append_nil] at h9
    have h10 : Seen x out { rdT out.length with state := 7, left := n, many := 0 } := by have h := h9; simp only at h; rwa [hx] at h
    exact ⟨h1, h2, by omega, { rdT out.length with left := n }, 0, rfl, h10⟩
  · rw [if_neg hn0] at hb
    by_cases hle : n ≤ 1048576 - (out.length : Int)
    · have hqt : q = true := by rw [hq]; simpa using hle
      have hm : mustF x q 181 = x := by unfold mustF; rw [if_neg (by simp [hqt])]
      rw [hm]
      refine .inr ⟨ho, fun h => absurd h hn0, fun _ => ?_⟩
      rw [if_neg (by omega)] at hb
      have h9 := h8.step (x := { x with pos := p }) h6 (show feed _ (x.s.getD p 0) = _ by rw [hf]; show ((beginsF { rdT out.length with state := 4, left := n, many := m }).1, ([] : List UInt8), (beginsF { rdT out.length with state := 4, left := n, many := m }).2) = _; rw [hb])
      rw [List.append_nil] at h9
      have h10 : Seen x out { rdT out.length with state := 4, left := n, many := 0 } := by have h := h9; simp only at h; rwa [hx] at h
      refine ⟨h1, h2, by omega, by omega, by omega, ?_⟩
      have e : ({ rdC with told := out.length, state := if ((0 : Nat) : Int) = n then 5 else 4, left := n - ((0 : Nat) : Int), many := 0 } : Rd) = { rdT out.length with state := 4, left := n, many := 0 } := by
        rw [if_neg (by omega)]; simp [rdT]
      rw [e]; exact h10
    · have hqf : q = false := by rw [hq]; simpa using hle
      have hm : mustF x q 181 = { x with e := 181 } := by unfold mustF; rw [if_pos ⟨ho, hqf⟩]
      rw [hm]
      rw [if_pos (by omega)] at hb
      refine .inl (.inr ⟨(show (181 : Int) ≠ 0 from by decide), ?_⟩)
      exact h8.wrong (x := { x with pos := p }) h6 (show feed _ (x.s.getD p 0) = _ by rw [hf]; show ((beginsF { rdT out.length with state := 4, left := n, many := m }).1, ([] : List UInt8), (beginsF { rdT out.length with state := 4, left := n, many := m }).2) = _; rw [hb]) (show (181 : Int) ≠ 0 from by decide)
theorem chunk_next {x : Xr} {out : List UInt8} {n : Int} {i : Nat} (h : InChunk x out n i) (hi : (i : Int) < n) :
    (okX (nextF x) = true ∧ InChunk (nextF x) (out ++ [nextB x]) n (i + 1)) ∨ (okX (nextF x) = false ∧ Ended (nextF x) out) := by
  obtain ⟨h1, h2, h3, h4, h5, h6⟩ := h
  have ho : okX x = true := by simp [okX, h1, h2]
  unfold nextF nextB
  rw [if_pos ho]
  by_cases hp : (x.pos : Int) < x.s.length
  · rw [if_pos hp, if_pos ho]
    left
    refine ⟨ho, h1, h2, h3, by omega, by simp; omega, ?_⟩
    rw [if_neg (by omega)] at h6
    have hf := in4 { rdC with told := out.length, state := 4, left := n - i, many := 0 } (x.s.getD x.pos 0) rfl
    have h7 := h6.step (by omega) hf
    have e : ({ rdC with told := ((out ++ [x.s.getD x.pos 0]).length : Int), state := if ((i + 1 : Nat) : Int) = n then 5 else 4, left := n - ((i + 1 : Nat) : Int), many := 0 } : Rd) = { rdC with told := (out.length : Int) + 1, state := if n - (i : Int) = 1 then 5 else 4, left := n - i - 1, many := 0 } := by
      simp only [List.length_append, List.length_cons, List.length_nil, Rd.mk.injEq, true_and, and_true]
      refine ⟨?_, by omega, by omega⟩
      by_cases g : n - (i : Int) = 1
      · rw [if_pos g, if_pos (by omega)]
      · rw [if_neg g, if_neg (by omega)]
    rw [e]; exact h7
  · rw [if_neg hp]
    right
    refine ⟨by simp [okX], .inl ⟨rfl, h1, ?_⟩⟩
    exact h6.short (by omega) (by show (if (i : Int) = n then (5 : Int) else 4) ≠ 11; split <;> decide)
/-- The two bytes behind a chunk. -/
def byX (x : Xr) (c : UInt8) : Xr := mustF (nextF x) (decide (((nextB x).toNat : Int) = c.toNat)) 180
theorem Ended.by {x : Xr} {out : List UInt8} (h : Ended x out) (c : UInt8) : Ended (byX x c) out := h.next.must _ _
theorem seen_by {x : Xr} {out : List UInt8} {r r' : Rd} {c : UInt8} (h1 : x.e = 0) (h2 : x.short = false) (h : Seen x out r) (hs : r.state ≠ 11) (hy : ∀ d : UInt8, d.toNat = c.toNat → feed r d = (r', [], 0)) (hn : ∀ d : UInt8, d.toNat ≠ c.toNat → ∃ r2, feed r d = (r2, [], 180)) :
    Ended (byX x c) out ∨ ((byX x c).e = 0 ∧ (byX x c).short = false ∧ Seen (byX x c) out r') := by
  have ho : okX x = true := by simp [okX, h1, h2]
  unfold byX
  by_cases hp : (x.pos : Int) < x.s.length
  · have hnx : nextF x = { x with pos := x.pos + 1 } := by unfold nextF; rw [if_pos hp, if_pos ho]
    have hnb : nextB x = x.s.getD x.pos 0 := by unfold nextB; rw [if_pos ho]
    rw [hnx, hnb]
    by_cases hc : (x.s.getD x.pos 0).toNat = c.toNat
    · right
      have hm : mustF { x with pos := x.pos + 1 } (decide (((x.s.getD x.pos 0).toNat : Int) = c.toNat)) 180 = { x with pos := x.pos + 1 } := by unfold mustF; rw [if_neg (by rw [decide_eq_true (by omega)]; simp)]
      rw [hm]
      have h3 := h.step (by omega) (hy _ hc)
      rw [List.append_nil] at h3
      exact ⟨h1, h2, h3⟩
    · left
      have hm : mustF { x with pos := x.pos + 1 } (decide (((x.s.getD x.pos 0).toNat : Int) = c.toNat)) 180 = { x with pos := x.pos + 1, e := 180 } := by
        unfold mustF; rw [if_pos ⟨ho, decide_eq_false (by omega)⟩]
      rw [hm]
      obtain ⟨r2, h3⟩ := hn _ hc
      exact .inr ⟨(show (180 : Int) ≠ 0 from by decide), h.wrong (by omega) h3 (show (180 : Int) ≠ 0 from by decide)⟩
  · left
    have hnx : nextF x = { x with short := true } := by unfold nextF; rw [if_neg hp]
    rw [hnx]
    exact Ended.must (x := { x with short := true }) (.inl ⟨rfl, h1, h.short (by omega) hs⟩) _ _
theorem chunk_end {x : Xr} {out : List UInt8} {n : Int} (h : Ended x out ∨ InChunk x out n n.toNat) : Ended (byX (byX x 13) 10) out ∨ InNum (byX (byX x 13) 10) out (rdT out.length) 0 0 := by
  rcases h with h | ⟨h1, h2, h3, h4, h5, h6⟩
  · exact .inl ((h.by 13).by 10)
  have e5 : ((n.toNat : Nat) : Int) = n := by omega
  rw [e5, if_pos rfl] at h6
  have h7 := seen_by (c := 13) (r' := { rdC with told := out.length, state := 6, left := n - n, many := 0 }) h1 h2 h6 (by show (5 : Int) ≠ 11; decide) (fun d hd => in5_13 _ d rfl hd) (fun d hd => ⟨_, in5_else _ d rfl hd⟩)
  rcases h7 with h7 | ⟨g1, g2, g3⟩
  · exact .inl (h7.by 10)
  have h8 := seen_by (c := 10) (r' := { rdC with told := out.length, state := 2, left := n - n, many := 0 }) g1 g2 g3 (by show (6 : Int) ≠ 11; decide) (fun d hd => in6_10 _ d rfl hd) (fun d hd => ⟨_, in6_else _ d rfl hd⟩)
  rcases h8 with h8 | ⟨f1, f2, f3⟩
  · exact .inl h8
  refine .inr ⟨f1, f2, by omega, by omega, by decide, ?_⟩
  have e : ({ rdT out.length with state := 2, left := 0, many := ((0 : Nat) : Int) } : Rd) = { rdC with told := out.length, state := 2, left := n - n, many := 0 } := by
    simp [rdT]
  rw [e]; exact f3
end BD
end Go.Proofs.YtgdncdhalnijcaaDoor
