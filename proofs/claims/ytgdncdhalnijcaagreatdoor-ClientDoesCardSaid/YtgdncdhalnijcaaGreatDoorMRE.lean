/- Walks and lemmas on the program of this seat, used by its statements; each theorem bears its own conditions. -/
import Derived.Test.YtgdncdhalnijcaaGreatDoorMRW
import Derived.Test.YtgdncdhalnijcaaGreatDoorMRL
import Derived.StillTailTactics
import Derived.OwnWalk
import Derived.Deep.AppendLies
import Derived.SliceStrings
namespace Go.Proofs.YtgdncdhalnijcaaGreatDoor
open Go.RowKit
set_option linter.unusedVariables false
set_option linter.unusedSimpArgs false
section
namespace BD
/-! ### What Run says: pure -/
def kindF (st : Int) (names values : List (List UInt8)) : Int × Int × Int :=
  if st < 200 ∨ st = 204 ∨ st = 304 then (0, 0, 0)
  else if 0 < (getF names values teName).2 then
    (if 1 < (getF names values teName).2 ∨ 0 < (getF names values clName).2 ∨ isChunked (getF names values teName).1 = false then (0, 0, 180) else (1, -1, 0))
  else if 0 < (getF names values clName).2 then
    (if 1 < (getF names values clName).2 ∨ lengthF (getF names values clName).1 < 0 then (0, 0, 180)
     else if 1048576 < lengthF (getF names values clName).1 then (0, 0, 181)
     else (2, lengthF (getF names values clName).1, 0))
  else (3, -1, 0)
def rdN : Rd := { rdNil with state := 11 }
def rdZ (n : Int) : Rd := { rdNil with state := if n = 0 then 11 else 0, size := n, left := n }
def rdP : Rd := { rdNil with state := 1, size := -1 }
def KindOf (kd sz : Int) (R : Rd) : Prop := (kd = 0 ∧ sz = 0 ∧ R = rdN) ∨ (kd = 1 ∧ sz = -1 ∧ R = rdC) ∨ (kd = 2 ∧ 0 ≤ sz ∧ sz ≤ 1048576 ∧ R = rdZ sz) ∨ (kd = 3 ∧ sz = -1 ∧ R = rdP)
theorem kind_new (st : Int) (names values : List (List UInt8)) :
    (∃ k, newF st names values = (none, k) ∧ k ≠ 0 ∧ kindF st names values = (0, 0, k)) ∨ (∃ kd sz R, newF st names values = (some R, 0) ∧ kindF st names values = (kd, sz, 0) ∧ KindOf kd sz R) := by
  unfold newF kindF
  by_cases h1 : st < 200 ∨ st = 204 ∨ st = 304
  · rw [if_pos h1, if_pos h1]; exact .inr ⟨_, _, _, rfl, rfl, .inl ⟨rfl, rfl, rfl⟩⟩
  rw [if_neg h1, if_neg h1]
  by_cases h2 : 0 < (getF names values teName).2
  · rw [if_pos h2, if_pos h2]
    by_cases h3 : 1 < (getF names values teName).2 ∨ 0 < (getF names values clName).2 ∨ isChunked (getF names values teName).1 = false
    · rw [if_pos h3, if_pos h3]; exact .inl ⟨_, rfl, by decide, rfl⟩
    · rw [if_neg h3, if_neg h3]; exact .inr ⟨_, _, _, rfl, rfl, .inr (.inl ⟨rfl, rfl, rfl⟩)⟩
  rw [if_neg h2, if_neg h2]
  by_cases h3 : 0 < (getF names values clName).2
  · rw [if_pos h3, if_pos h3]
    by_cases h4 : 1 < (getF names values clName).2 ∨ lengthF (getF names values clName).1 < 0
    · rw [if_pos h4, if_pos h4]; exact .inl ⟨_, rfl, by decide, rfl⟩
    rw [if_neg h4, if_neg h4]
    by_cases h5 : 1048576 < lengthF (getF names values clName).1
    · rw [if_pos h5, if_pos h5]; exact .inl ⟨_, rfl, by decide, rfl⟩
    rw [if_neg h5, if_neg h5]
    exact .inr ⟨_, _, _, rfl, rfl, .inr (.inr (.inl ⟨rfl, by omega, by omega, rfl⟩))⟩
  · rw [if_neg h3, if_neg h3]; exact .inr ⟨_, _, _, rfl, rfl, .inr (.inr (.inr ⟨rfl, rfl, rfl⟩))⟩
/-- The four answers of Run. -/
def RunIs (R0 : Rd) (s out : List UInt8) (used : Int) (d : Bool) (k : Int) : Prop :=
  ∃ r, feeds R0 s = (r, out, k) ∧ d = decide (k = 0 ∧ r.state = 11) ∧ (d = true → used = (s.length : Int) - r.rest.length)
theorem run_none (s : List UInt8) : RunIs rdN s [] 0 true 0 := by
  refine ⟨_, feeds_done s rdN rfl, by simp [rdN], fun _ => by simp [rdN, rdNil]⟩
theorem run_open (s : List UInt8) : RunIs rdP s (if 1048576 < s.length then [] else s) (if 1048576 < s.length then 0 else s.length) false (if 1048576 < s.length then 181 else 0) := by
  have h := feeds_open s rdP rfl (by simp [rdP, rdNil]) (by simp [rdP, rdNil])
  by_cases hl : 1048576 < s.length
  · rw [if_neg (by simp [rdP, rdNil]; omega)] at h
    rw [if_pos hl, if_pos hl, if_pos hl]
    exact ⟨_, h, by simp [rdP], by simp⟩
  · rw [if_pos (by simp [rdP, rdNil]; omega)] at h
    rw [if_neg hl, if_neg hl, if_neg hl]
    exact ⟨_, h, by simp [rdP], by simp⟩
theorem run_sized (s : List UInt8) (n : Int) (hn : 0 ≤ n) : RunIs (rdZ n) s (s.take (min n s.length).toNat) (min n s.length) (min n s.length == n) 0 := by
  by_cases h0 : n = 0
  · subst h0
    have h1 : min (0 : Int) s.length = 0 := by omega
    rw [h1]
    exact ⟨_, feeds_done s (rdZ 0) rfl, by simp [rdZ], fun _ => by simp [rdZ, rdNil]⟩
  have hst : (rdZ n).state = 0 := by simp [rdZ, h0]
  by_cases hle : (s.length : Int) ≤ n
  · have h1 : min n (s.length : Int) = s.length := by omega
    rw [h1]
    by_cases hs : s = []
    · subst hs
      refine ⟨_, feeds_nil _, ?_, ?_⟩
      · simp [hst]; omega
      · simp; omega
    · have h2 := feeds_some 0 s (rdZ n) hst (.inl rfl) (by show 0 < n; omega) hs hle
      have e1 : (if (rdZ n).left - (s.length : Int) = 0 then if (rdZ n).state = 0 then (11 : Int) else 5 else (rdZ n).state) = if (s.length : Int) = n then 11 else 0 := by
        rw [hst]
        by_cases h3 : (s.length : Int) = n
        · rw [if_pos (by show n - (s.length : Int) = 0; omega), if_pos h3, if_pos rfl]
        · rw [if_neg (by show ¬ n - (s.length : Int) = 0; omega), if_neg h3]
      rw [e1] at h2
      have e2 : s.take ((s.length : Int)).toNat = s := List.take_of_length_le (by omega)
      rw [e2]
      refine ⟨_, h2, ?_, ?_⟩
      · by_cases h3 : (s.length : Int) = n <;> simp [h3]
      · intro _; simp [rdZ, rdNil]
  · have h1 : min n (s.length : Int) = n := by omega
    rw [h1]
    have hl : (s.take n.toNat).length = n.toNat := by simp; omega
    have h2 := feeds_some 0 (s.take n.toNat) (rdZ n) hst (.inl rfl) (by show 0 < n; omega) (by intro h; rw [h] at hl; simp at hl; omega) (by rw [hl]; show ((n.toNat : Nat) : Int) ≤ n; omega)
    rw [if_pos (by rw [hl]; show n - ((n.toNat : Nat) : Int) = 0; omega), if_pos hst] at h2
    have h3 := feeds_done (s.drop n.toNat) _ (show ({ rdZ n with left := (rdZ n).left - ((s.take n.toNat).length : Int), told := (rdZ n).told + ((s.take n.toNat).length : Int), state := 11 } : Rd).state = 11 from rfl)
    have h4 := feeds_go h2 h3
    rw [List.take_append_drop, if_pos rfl, List.append_nil] at h4
    refine ⟨_, h4, by simp, ?_⟩
    intro _
    simp [rdZ, rdNil]; omega
theorem ended_run {x : Xr} {out : List UInt8} (h : Ended x out) : (x.e ≠ 0 → RunIs rdC x.s [] 0 false x.e) ∧ (x.e = 0 → x.short = true ∧ RunIs rdC x.s out x.pos false 0) := by
  rcases h with ⟨h1, h2, r, h3, h4⟩ | ⟨h1, _, h3⟩
  · exact ⟨fun h => absurd h2 h, fun _ => ⟨h1, r, h3, by simp [h4], by simp⟩⟩
  · exact ⟨fun _ => ⟨(feeds rdC x.s).1, by rw [← h3], by simp [h1], by simp⟩, fun h => absurd h h1⟩
theorem done_run {x : Xr} {out : List UInt8} {r : Rd} (h : Seen x out r) (hs : r.state = 11) (hr : r.rest = []) : RunIs rdC x.s out x.pos true 0 := by
  have h2 := feeds_go h.2 (feeds_done (x.s.drop x.pos) r hs)
  rw [List.take_append_drop, if_pos rfl, List.append_nil] at h2
  refine ⟨_, h2, by simp [hs], fun _ => ?_⟩
  have := h.1
  simp [hr]; omega
/-! ### The steps of Run's loop: pure -/
def rdT (n : Nat) : Rd := { rdC with told := n }
theorem Ended.next {x : Xr} {out : List UInt8} (h : Ended x out) : Ended (nextF x) out := by
  have ho := h.not_ok
  unfold nextF
  by_cases hp : (x.pos : Int) < x.s.length
  · rw [if_pos hp, if_neg (by simp [ho])]; exact h
  · rw [if_neg hp]
    rcases h with ⟨h1, h2, h3⟩ | ⟨h1, h2⟩
    · exact .inl ⟨rfl, h2, h3⟩
    · exact .inr ⟨h1, h2⟩
theorem Ended.must {x : Xr} {out : List UInt8} (h : Ended x out) (q : Bool) (k : Int) : Ended (mustF x q k) out := by
  unfold mustF; rw [if_neg (by simp [h.not_ok])]; exact h
theorem next_s (x : Xr) : (nextF x).s = x.s ∧ (nextF x).sv = x.sv := by unfold nextF; (repeat' split) <;> exact ⟨rfl, rfl⟩
theorem must_s (x : Xr) (q : Bool) (k : Int) : (mustF x q k).s = x.s ∧ (mustF x q k).sv = x.sv := by unfold mustF; split <;> exact ⟨rfl, rfl⟩
/-- Within a chunk of n bytes: i of them were read. -/
def InChunk (x : Xr) (out : List UInt8) (n : Int) (i : Nat) : Prop :=
  x.e = 0 ∧ x.short = false ∧ 0 < n ∧ (i : Int) ≤ n ∧ (out.length : Int) + (n - i) ≤ 1048576 ∧ Seen x out { rdC with told := out.length, state := if (i : Int) = n then 5 else 4, left := n - i, many := 0 }
theorem num_must {x : Xr} {out : List UInt8} {n : Int} {q : Bool} (h : Ended x out ∨ NumDone x out (rdT out.length) n) (hq : q = decide (n ≤ 1048576 - (out.length : Int))) (hl : out.length ≤ 1048576) :
    Ended (mustF x q 181) out ∨ (okX (mustF x q 181) = true ∧ (n = 0 → AtLine (mustF x q 181) out 0) ∧ (n ≠ 0 → InChunk (mustF x q 181) out n 0)) := by
  rcases h with h | ⟨h1, h2, h3, h4, p, m, h5, h6, h7, h8⟩
  · exact .inl (h.must _ _)
  have ho : okX x = true := by simp [okX, h1, h2]
  have hf := in3_10 { rdT out.length with state := 3, left := n, many := m } (x.s.getD p 0) rfl h7
  have hb : beginsF { rdT out.length with state := 4, left := n, many := m } = if n = 0 then ({ rdT out.length with state := 7, left := n, many := 0 }, 0) else if n > 1048576 - (out.length : Int) then ({ rdT out.length with state := 4, left := n, many := 0 }, 181) else ({ rdT out.length with state := 4, left := n, many := 0 }, 0) := by
    unfold beginsF
    simp only
    by_cases g1 : n = 0
    · simp [g1]
    · by_cases g2 : n > 1048576 - (out.length : Int)
      · simp [g1, rdT, g2]
      · simp [g1, rdT, g2]
  have hx : { x with pos := p + 1 } = x := by cases x; simp at h5 ⊢; exact h5.symm
  by_cases hn0 : n = 0
  · have hqt : q = true := by rw [hq]; simp; omega
    have hm : mustF x q 181 = x := by unfold mustF; rw [if_neg (by simp [hqt])]
    rw [hm]
    refine .inr ⟨ho, fun _ => ?_, fun h => absurd hn0 h⟩
    rw [if_pos hn0] at hb
    have hb' : beginsF { rdT out.length with state := 4, left := n, many := m } = ({ rdT out.length with state := 7, left := n, many := 0 }, 0) := hb
    have h9 := h8.step (x := { x with pos := p }) h6 (show feed _ (x.s.getD p 0) = _ by rw [hf]; show ((beginsF { rdT out.length with state := 4, left := n, many := m }).1, ([] : List UInt8), (beginsF { rdT out.length with state := 4, left := n, many := m }).2) = _; rw [hb'])
    rw [List.append_nil] at h9
    have h10 : Seen x out { rdT out.length with state := 7, left := n, many := 0 } := by have h := h9; simp only at h; rwa [hx] at h
    exact ⟨h1, h2, by omega, { rdT out.length with left := n }, 0, rfl, h10⟩
  · rw [if_neg hn0] at hb
    by_cases hle : n ≤ 1048576 - (out.length : Int)
    · have hqt : q = true := by rw [hq]; simpa using hle
      have hm : mustF x q 181 = x := by unfold mustF; rw [if_neg (by simp [hqt])]
      rw [hm]
      refine .inr ⟨ho, fun h => absurd h hn0, fun _ => ?_⟩
      rw [if_neg (by omega)] at hb
      have h9 := h8.step (x := { x with pos := p }) h6 (show feed _ (x.s.getD p 0) = _ by rw [hf]; show ((beginsF { rdT out.length with state := 4, left := n, many := m }).1, ([] : List UInt8), (beginsF { rdT out.length with state := 4, left := n, many := m }).2) = _; rw [hb])
      rw [List.append_nil] at h9
      have h10 : Seen x out { rdT out.length with state := 4, left := n, many := 0 } := by have h := h9; simp only at h; rwa [hx] at h
      refine ⟨h1, h2, by omega, by omega, by omega, ?_⟩
      have e : ({ rdC with told := out.length, state := if ((0 : Nat) : Int) = n then 5 else 4, left := n - ((0 : Nat) : Int), many := 0 } : Rd) = { rdT out.length with state := 4, left := n, many := 0 } := by
        rw [if_neg (by omega)]; simp [rdT]
      rw [e]; exact h10
    · have hqf : q = false := by rw [hq]; simpa using hle
      have hm : mustF x q 181 = { x with e := 181 } := by unfold mustF; rw [if_pos ⟨ho, hqf⟩]
      rw [hm]
      rw [if_pos (by omega)] at hb
      refine .inl (.inr ⟨(show (181 : Int) ≠ 0 from by decide), ?_⟩)
      exact h8.wrong (x := { x with pos := p }) h6 (show feed _ (x.s.getD p 0) = _ by rw [hf]; show ((beginsF { rdT out.length with state := 4, left := n, many := m }).1, ([] : List UInt8), (beginsF { rdT out.length with state := 4, left := n, many := m }).2) = _; rw [hb]) (show (181 : Int) ≠ 0 from by decide)
theorem chunk_next {x : Xr} {out : List UInt8} {n : Int} {i : Nat} (h : InChunk x out n i) (hi : (i : Int) < n) :
    (okX (nextF x) = true ∧ InChunk (nextF x) (out ++ [nextB x]) n (i + 1)) ∨ (okX (nextF x) = false ∧ Ended (nextF x) out) := by
  obtain ⟨h1, h2, h3, h4, h5, h6⟩ := h
  have ho : okX x = true := by simp [okX, h1, h2]
  unfold nextF nextB
  rw [if_pos ho]
  by_cases hp : (x.pos : Int) < x.s.length
  · rw [if_pos hp, if_pos ho]
    left
    refine ⟨ho, h1, h2, h3, by omega, by simp; omega, ?_⟩
    rw [if_neg (by omega)] at h6
    have hf := in4 { rdC with told := out.length, state := 4, left := n - i, many := 0 } (x.s.getD x.pos 0) rfl
    have h7 := h6.step (by omega) hf
    have e : ({ rdC with told := ((out ++ [x.s.getD x.pos 0]).length : Int), state := if ((i + 1 : Nat) : Int) = n then 5 else 4, left := n - ((i + 1 : Nat) : Int), many := 0 } : Rd) = { rdC with told := (out.length : Int) + 1, state := if n - (i : Int) = 1 then 5 else 4, left := n - i - 1, many := 0 } := by
      simp only [List.length_append, List.length_cons, List.length_nil, Rd.mk.injEq, true_and, and_true]
      refine ⟨?_, by omega, by omega⟩
      by_cases g : n - (i : Int) = 1
      · rw [if_pos g, if_pos (by omega)]
      · rw [if_neg g, if_neg (by omega)]
    rw [e]; exact h7
  · rw [if_neg hp]
    right
    refine ⟨by simp [okX], .inl ⟨rfl, h1, ?_⟩⟩
    exact h6.short (by omega) (by show (if (i : Int) = n then (5 : Int) else 4) ≠ 11; split <;> decide)
/-- The two bytes behind a chunk. -/
def byX (x : Xr) (c : UInt8) : Xr := mustF (nextF x) (decide (((nextB x).toNat : Int) = c.toNat)) 180
theorem Ended.by {x : Xr} {out : List UInt8} (h : Ended x out) (c : UInt8) : Ended (byX x c) out := h.next.must _ _
theorem seen_by {x : Xr} {out : List UInt8} {r r' : Rd} {c : UInt8} (h1 : x.e = 0) (h2 : x.short = false) (h : Seen x out r) (hs : r.state ≠ 11) (hy : ∀ d : UInt8, d.toNat = c.toNat → feed r d = (r', [], 0)) (hn : ∀ d : UInt8, d.toNat ≠ c.toNat → ∃ r2, feed r d = (r2, [], 180)) :
    Ended (byX x c) out ∨ ((byX x c).e = 0 ∧ (byX x c).short = false ∧ Seen (byX x c) out r') := by
  have ho : okX x = true := by simp [okX, h1, h2]
  unfold byX
  by_cases hp : (x.pos : Int) < x.s.length
  · have hnx : nextF x = { x with pos := x.pos + 1 } := by unfold nextF; rw [if_pos hp, if_pos ho]
    have hnb : nextB x = x.s.getD x.pos 0 := by unfold nextB; rw [if_pos ho]
    rw [hnx, hnb]
    by_cases hc : (x.s.getD x.pos 0).toNat = c.toNat
    · right
      have hm : mustF { x with pos := x.pos + 1 } (decide (((x.s.getD x.pos 0).toNat : Int) = c.toNat)) 180 = { x with pos := x.pos + 1 } := by unfold mustF; rw [if_neg (by rw [decide_eq_true (by omega)]; simp)]
      rw [hm]
      have h3 := h.step (by omega) (hy _ hc)
      rw [List.append_nil] at h3
      exact ⟨h1, h2, h3⟩
    · left
      have hm : mustF { x with pos := x.pos + 1 } (decide (((x.s.getD x.pos 0).toNat : Int) = c.toNat)) 180 = { x with pos := x.pos + 1, e := 180 } := by
        unfold mustF; rw [if_pos ⟨ho, decide_eq_false (by omega)⟩]
      rw [hm]
      obtain ⟨r2, h3⟩ := hn _ hc
      exact .inr ⟨(show (180 : Int) ≠ 0 from by decide), h.wrong (by omega) h3 (show (180 : Int) ≠ 0 from by decide)⟩
  · left
    have hnx : nextF x = { x with short := true } := by unfold nextF; rw [if_neg hp]
    rw [hnx]
    exact Ended.must (x := { x with short := true }) (.inl ⟨rfl, h1, h.short (by omega) hs⟩) _ _
theorem chunk_end {x : Xr} {out : List UInt8} {n : Int} (h : Ended x out ∨ InChunk x out n n.toNat) : Ended (byX (byX x 13) 10) out ∨ InNum (byX (byX x 13) 10) out (rdT out.length) 0 0 := by
  rcases h with h | ⟨h1, h2, h3, h4, h5, h6⟩
  · exact .inl ((h.by 13).by 10)
  have e5 : ((n.toNat : Nat) : Int) = n := by omega
  rw [e5, if_pos rfl] at h6
  have h7 := seen_by (c := 13) (r' := { rdC with told := out.length, state := 6, left := n - n, many := 0 }) h1 h2 h6 (by show (5 : Int) ≠ 11; decide) (fun d hd => in5_13 _ d rfl hd) (fun d hd => ⟨_, in5_else _ d rfl hd⟩)
  rcases h7 with h7 | ⟨g1, g2, g3⟩
  · exact .inl (h7.by 10)
  have h8 := seen_by (c := 10) (r' := { rdC with told := out.length, state := 2, left := n - n, many := 0 }) g1 g2 g3 (by show (6 : Int) ≠ 11; decide) (fun d hd => in6_10 _ d rfl hd) (fun d hd => ⟨_, in6_else _ d rfl hd⟩)
  rcases h8 with h8 | ⟨f1, f2, f3⟩
  · exact .inl h8
  refine .inr ⟨f1, f2, by omega, by omega, by decide, ?_⟩
  have e : ({ rdT out.length with state := 2, left := 0, many := ((0 : Nat) : Int) } : Rd) = { rdC with told := out.length, state := 2, left := n - n, many := 0 } := by
    simp [rdT]
  rw [e]; exact f3
end BD
end
section
namespace BD
/-! ### The document's Get, Kind -/
set_option maxRecDepth 100000 in
set_option maxHeartbeats 1000000 in
theorem rget_any (st : Int) (nv vv : Value) (names values : List (List UInt8)) (name : List UInt8) (w : World) (hn : StrsAt w nv names) (hv : StrsAt w vv values) :
    Calls Tryz.prog 71 #[.agg #[I st, nv, vv], S name] w fun e w' => e = .returned (.tuple #[S (getF names values name).1, I (getF names values name).2]) ∧ Kept [] w w' := by
  have HN := hn
  have HV := hv
  obtain ⟨pn, cn, rfl, hnl, hnc⟩ := hn
  obtain ⟨pv, cv, rfl, hvl, hvc⟩ := hv
  have hnl' : (names.length : Int) ≤ 9223372036854775807 := by omega
  have hvl' : (values.length : Int) ≤ 9223372036854775807 := by omega
  have Hn := Lib.hid hnc
  have Hv := Lib.hid hvc
  clear hnc hvc
  go_enter Tryz.func71, Tryz.ntmps71
  go_wp2_with (fail)
  go_loop [6, 7, 8] (fun v n i => ∃ k : Nat, k ≤ names.length ∧ i = I k ∧ v = S (getF (names.take k) values name).1 ∧ n = I (getF (names.take k) values name).2) (fun _ _ i => names.length - (intOf i).toNat)
  case atStart => exact ⟨0, by omega, rfl, rfl, rfl⟩
  case round =>
    obtain ⟨k, hk, rfl, rfl, rfl⟩ := hrel
    have hgl := getF_le (names.take k) values name
    have hgl' : (getF (names.take k) values name).2 ≤ k := by rw [List.length_take] at hgl; omega
    clear hgl
    by_cases hlt : k < names.length
    · obtain ⟨bn, on, rfl, hcn⟩ := Hn.out (by intro h; rw [h] at hlt; simp at hlt)
      have hc := hcn k hlt
      have hbn : bn < w.heap.size := World.block_lt_of_cell? w _ hc
      have hts : names.take (k + 1) = names.take k ++ [names[k]] := by rw [List.take_succ_eq_append_getElem hlt]
      generalize hx : names[k] = x at *
      obtain ⟨v, m, hvm⟩ : ∃ v m, getF (names.take k) values name = (v, m) := ⟨_, _, rfl⟩
      rw [hvm] at hgl' ⊢
      simp only at hgl' ⊢
      have hlk : (names.take k).length = k := by simp; omega
      have HTS := Lib.hid hts
      have HX := Lib.hid hx
      have HVM := Lib.hid hvm
      have HLK := Lib.hid hlk
      clear hts hx hcn hvm hlk
      by_cases hxe : x = name
      · by_cases hm : m = 0
        · by_cases hkv : k < values.length
          · obtain ⟨bv, ov, rfl, hcv⟩ := Hv.out (by intro h; rw [h] at hkv; simp at hkv)
            have hd := hcv k hkv
            have hbv : bv < w.heap.size := World.block_lt_of_cell? w _ hd
            have HD : Hid (getF (names.take (k + 1)) values name = (values[k], 1)) := by
              have h1 := getF_first (names.take k) values name (by rw [HVM.out]; exact hm)
              unfold Hid
              rw [HTS.out, hxe, h1.1, HLK.out]
              simp [hkv]
            generalize hy : values[k] = y at *
            clear hcv hy
            subst hxe hm
            go_wp2_with (fail)
            go_round
            case rel => exact ⟨k + 1, by omega, by go_num, by rw [HD.out], by rw [HD.out]; rfl⟩
            case measure => simp [intOf]; omega
          · have HD : Hid (getF (names.take (k + 1)) values name = (v, 1)) := by
              have h1 := getF_first (names.take k) values name (by rw [HVM.out]; exact hm)
              have h2 := h1.2
              rw [HVM.out] at h2
              unfold Hid
              rw [HTS.out, hxe, h1.1, HLK.out]
              simp at h2
              rw [h2, List.getD_eq_getElem?_getD, List.getElem?_eq_none (by omega)]
              rfl
            subst hxe hm
            go_wp2_with (fail)
            go_round
            case rel => exact ⟨k + 1, by omega, by go_num, by rw [HD.out], by rw [HD.out]; rfl⟩
            case measure => simp [intOf]; omega
        · have HD : Hid (getF (names.take (k + 1)) values name = (v, m + 1)) := by
            have h1 := getF_again (names.take k) values name (by rw [HVM.out]; simp only; omega)
            unfold Hid
            rw [HTS.out, hxe, h1, HVM.out]
          have hm0 : ((m : Int) == 0) = false := by simp; omega
          subst hxe
          go_wp2_with (fail)
          go_round
          case rel => exact ⟨k + 1, by omega, by go_num, by rw [HD.out], by rw [HD.out]; go_num⟩
          case measure => simp [intOf]; omega
      · have HD : Hid (getF (names.take (k + 1)) values name = (v, m)) := by
          unfold Hid
          rw [HTS.out, getF_no _ _ _ _ hxe, HVM.out]
        have hxb : (x == name) = false := by simpa using hxe
        clear hxe
        go_wp2_with (fail)
        go_round
        case rel => exact ⟨k + 1, by omega, by go_num, by rw [HD.out], by rw [HD.out]⟩
        case measure => simp [intOf]; omega
    · go_wp2_with (fail)
      go_ret2
      have : names.take k = names := List.take_of_length_le (by omega)
      rw [this]
      exact ⟨rfl, (Kept.refl _ _).alloc _⟩

theorem getF_len (names values : List (List UInt8)) (name : List UInt8) (b : Nat) (h : ∀ s ∈ values, s.length ≤ b) : (getF names values name).1.length ≤ b := by
  unfold getF
  cases names.findIdx? (· == name) with
  | none => simp
  | some i =>
    simp only
    by_cases hi : i < values.length
    · have : values.getD i [] = values[i] := by simp [List.getD, hi]
      rw [this]; exact h _ (List.getElem_mem hi)
    · have : values.getD i [] = [] := by simp [List.getD]; rw [List.getElem?_eq_none (by omega)]; rfl
      rw [this]; simp
def SmallSays : Prop := ∀ (s : List UInt8) (w : World), s.length ≤ 9223372036854775807 → Calls Tryz.prog 69 #[S s] w fun e w' => e = .returned (S (s.map lowerB)) ∧ Kept [] w w'
def KindPost (w : World) (r : Int × Int × Int) (e : Ending) (w' : World) : Prop := e = .returned (.tuple #[I r.1, I r.2.1, I r.2.2]) ∧ Kept [] w w'
theorem KindPost.of {w w' : World} {r : Int × Int × Int} {a b c : Int} (h : r = (a, b, c)) (k : Kept [] w w') : KindPost w r (.returned (.tuple #[I a, I b, I c])) w' := by subst h; exact ⟨rfl, k⟩
set_option maxRecDepth 100000 in
set_option maxHeartbeats 2000000 in
theorem kind_any (hS : SmallSays) (st : Int) (nv vv : Value) (names values : List (List UInt8)) (w : World) (hn : StrsAt w nv names) (hv : StrsAt w vv values) (hvs : ∀ s ∈ values, s.length ≤ 9223372036854775807) :
    Calls Tryz.prog 44 #[.agg #[I st, nv, vv]] w (KindPost w (kindF st names values)) := by
  obtain ⟨te, nte, hte⟩ : ∃ te nte, getF names values teName = (te, nte) := ⟨_, _, rfl⟩
  obtain ⟨cl, ncl, hcl⟩ : ∃ cl ncl, getF names values clName = (cl, ncl) := ⟨_, _, rfl⟩
  have hle := getF_le names values teName
  have hlc := getF_le names values clName
  have hte64 := getF_len names values teName _ hvs
  have hcl64 := getF_len names values clName _ hvs
  have hnl : names.length ≤ 9223372036854775807 := by obtain ⟨_, _, _, h, _⟩ := hn; exact h
  rw [hte] at hle hte64
  rw [hcl] at hlc hcl64
  simp only at hle hlc hte64 hcl64
  have hcl64' : (cl.length : Int) ≤ 9223372036854775807 := by omega
  have HT64 := Lib.hid hte64
  clear hte64 hcl64
  have HN : Hid (kindF st names values = if st < 200 ∨ st = 204 ∨ st = 304 then (0, 0, 0)
      else if 0 < nte then (if 1 < nte ∨ 0 < ncl ∨ isChunked te = false then (0, 0, 180) else (1, -1, 0))
      else if 0 < ncl then (if 1 < ncl ∨ lengthF cl < 0 then (0, 0, 180) else if 1048576 < lengthF cl then (0, 0, 181) else (2, lengthF cl, 0))
      else (3, -1, 0)) := by
    unfold Hid kindF; rw [hte, hcl]
  have HTE := Lib.hid hte
  have HCL := Lib.hid hcl
  have hA : Kept [] w (w.alloc (.cells #[I st, nv, vv] 53)) := (Kept.refl _ _).alloc _
  have HA := Lib.hid hA
  have HH := Lib.hid (And.intro hn hv)
  clear hte hcl hA hn hv
  go_enter Tryz.func44, Tryz.ntmps44
  go_wp2_with (fail)
  have g1 := rget_any st nv vv names values teName (w.alloc (.cells #[I st, nv, vv] 53)) (HH.out.1.kept HA.out) (HH.out.2.kept HA.out)
  rw [HTE.out] at g1
  have G1 := Lib.hid g1
  clear g1
  refine G1.out.mono ?_
  rintro e w1 ⟨rfl, k1⟩
  have hb1 : w1.heap[w.heap.size]? = some (.cells #[I st, nv, vv] 53) := k1.at (heap_new _ _) (by simp)
  have c10 : w1.cell? ⟨w.heap.size, 0, none⟩ = some (I st) := by rw [cell_at hb1]; rfl
  have c11 : w1.cell? ⟨w.heap.size, 1, none⟩ = some nv := by rw [cell_at hb1]; rfl
  have c12 : w1.cell? ⟨w.heap.size, 2, none⟩ = some vv := by rw [cell_at hb1]; rfl
  have K1 := HA.out.trans' k1
  have HB1 := Lib.hid hb1
  clear hb1 k1
  go_wp2_with (fail)
  have g2 := rget_any st nv vv names values clName w1 (HH.out.1.kept K1) (HH.out.2.kept K1)
  rw [HCL.out] at g2
  have G2 := Lib.hid g2
  clear g2
  refine G2.out.mono ?_
  rintro e w2 ⟨rfl, k2⟩
  have hb2 : w2.heap[w.heap.size]? = some (.cells #[I st, nv, vv] 53) := k2.at HB1.out (by simp)
  have c20 : w2.cell? ⟨w.heap.size, 0, none⟩ = some (I st) := by rw [cell_at hb2]; rfl
  have K2 := Lib.hid (K1.trans' k2)
  clear hb2 k2 c10 c11 c12 HB1 K1
  by_cases hst : st < 200 ∨ st = 204 ∨ st = 304
  · have hr : Hid (kindF st names values = (0, 0, 0)) := by unfold Hid; rw [HN.out, if_pos hst]
    have hcs : st < 200 ∨ 200 ≤ st ∧ (st == 204) = true ∨ 200 ≤ st ∧ (st == 204) = false ∧ (st == 304) = true := by
      rcases hst with h | h | h
      · exact .inl h
      · subst h; exact .inr (.inl ⟨by decide, rfl⟩)
      · subst h; exact .inr (.inr ⟨by decide, rfl, rfl⟩)
    clear hst HN
    rcases hcs with h1 | ⟨h1, h2⟩ | ⟨h1, h2, h3⟩
    all_goals
      go_wp2_with (fail)
      go_ret3
      exact KindPost.of hr.out K2.out
  have h200 : 200 ≤ st := by omega
  have h204 : (st == 204) = false := by simp; omega
  have h304 : (st == 304) = false := by simp; omega
  have HN2 := HN.out
  rw [if_neg hst] at HN2
  have HN3 := Lib.hid HN2
  clear HN HN2 hst
  by_cases hte : 0 < nte
  · have hte' : (0 : Int) < nte := by omega
    have HN2 := HN3.out
    rw [if_pos hte] at HN2
    have HN4 := Lib.hid HN2
    clear HN2 HN3 hte
    by_cases h1 : 1 < nte
    · have h1' : (1 : Int) < nte := by omega
      have hr : Hid (kindF st names values = (0, 0, 180)) := by unfold Hid; rw [HN4.out, if_pos (.inl h1)]
      go_wp2_with (fail)
      go_ret3
      exact KindPost.of hr.out K2.out
    have h1' : ¬ (1 : Int) < nte := by omega
    by_cases h2 : 0 < ncl
    · have h2' : (0 : Int) < ncl := by omega
      have hr : Hid (kindF st names values = (0, 0, 180)) := by unfold Hid; rw [HN4.out, if_pos (.inr (.inl h2))]
      go_wp2_with (fail)
      go_ret3
      exact KindPost.of hr.out K2.out
    have h2' : ¬ (0 : Int) < ncl := by omega
    have HN5 : Hid (kindF st names values = if isChunked te = false then (0, 0, 180) else (1, -1, 0)) := by
      unfold Hid; rw [HN4.out]
      simp only [h1, h2, false_or]
    clear h1 h2 HN4
    go_wp2_with (fail)
    refine (hS te w2 HT64.out).mono ?_
    rintro e w3 ⟨rfl, k3⟩
    have K3 := Lib.hid (K2.out.trans' k3)
    clear k3
    obtain ⟨m, hm⟩ : ∃ m, te.map lowerB = m := ⟨_, rfl⟩
    rw [hm]
    cases hch : isChunked te with
    | false =>
      have hr : Hid (kindF st names values = (0, 0, 180)) := by unfold Hid; rw [HN5.out, if_pos hch]
      have hmb : (m == [99, 104, 117, 110, 107, 101, 100]) = false := by rw [← hm]; exact hch
      clear hm hch
      go_wp2_with (fail)
      go_ret3
      exact KindPost.of hr.out K3.out
    | true =>
      have hr : Hid (kindF st names values = (1, -1, 0)) := by unfold Hid; rw [HN5.out, if_neg (by simp [hch])]
      have hmb : (m == [99, 104, 117, 110, 107, 101, 100]) = true := by rw [← hm]; exact hch
      clear hm hch
      go_wp2_with (fail)
      go_ret3
      exact KindPost.of hr.out K3.out
  have hte' : ¬ (0 : Int) < nte := by omega
  have HN2 := HN3.out
  rw [if_neg hte] at HN2
  have HN4 := Lib.hid HN2
  clear HN2 HN3 hte
  by_cases hcl0 : ncl = 0
  · have hcb : ((ncl : Int) == 0) = true := by simp [hcl0]
    have hr : Hid (kindF st names values = (3, -1, 0)) := by unfold Hid; rw [HN4.out, if_neg (by omega)]
    clear hcl0
    go_wp2_with (fail)
    go_ret3
    exact KindPost.of hr.out K2.out
  have hcb : ((ncl : Int) == 0) = false := by simp; omega
  have HN5 : Hid (kindF st names values = if 1 < ncl ∨ lengthF cl < 0 then (0, 0, 180) else if 1048576 < lengthF cl then (0, 0, 181) else (2, lengthF cl, 0)) := by
    unfold Hid; rw [HN4.out, if_pos (by omega)]
  clear hcl0 HN4
  go_wp2_with (fail)
  go_loop [9, 10] (fun n i => ∃ k : Nat, k ≤ cl.length ∧ k ≤ 10 ∧ i = I k ∧ n = I (digs (cl.take k)) ∧ (cl.take k).all isDig = true) (fun _ i => 10 - (intOf i).toNat)
  case atStart => exact ⟨0, by omega, by omega, rfl, rfl, rfl⟩
  case round =>
    obtain ⟨k, hk, hk10, rfl, rfl, hall⟩ := hrel
    have hbd := digs_bd (cl.take k) hall k (by simp; omega)
    rw [List.take_take, Nat.min_self] at hbd
    have HA := Lib.hid hall
    clear hall
    by_cases hgo : k < cl.length ∧ k < 10
    · obtain ⟨hlt, hl10⟩ := hgo
      have hl10' : (k : Int) < 10 := by omega
      have hp := pow10_le k (by omega)
      obtain ⟨hb0, hb1⟩ : 0 ≤ digs (cl.take k) ∧ digs (cl.take k) < 1000000000 := by omega
      have hsn := all_take_snoc cl k hlt
      have hds : digs (cl.take (k + 1)) = 10 * digs (cl.take k) + ((cl[k].toNat : Int) - 48) := by rw [List.take_succ_eq_append_getElem hlt, digs_snoc]
      have hmem : cl[k] ∈ cl := List.getElem_mem _
      obtain ⟨c, hc⟩ : ∃ c, cl[k] = c := ⟨_, rfl⟩
      rw [hc] at hsn hds hmem
      have hcl2 : c.toNat < 256 := c.toNat_lt
      have HS := Lib.hid hsn
      have HD := Lib.hid hds
      have HM := Lib.hid hmem
      generalize digs (cl.take k) = d at *
      clear hsn hds hmem hbd hp
      by_cases hdg : 48 ≤ c.toNat ∧ c.toNat ≤ 57
      · have hdd : isDig c = true := by simp [isDig, hdg]
        obtain ⟨h1, h2⟩ := hdg
        have h1' : (48 : Int) ≤ c.toNat := by omega
        have h2' : (c.toNat : Int) ≤ 57 := by omega
        go_wp2_with (fail)
        go_round
        case rel => exact ⟨_, _, _, _, _, ⟨k + 1, by omega, by omega, rfl, rfl, List.all_eq_true.1 (by rw [HS.out, HA.out, hdd]; rfl)⟩, rfl, rfl, rfl, by rw [HD.out], by go_num⟩
        case measure => simp [intOf]; omega
      · have hdd : isDig c = false := by simp only [isDig, decide_eq_false_iff_not]; exact hdg
        have HE : Hid (lengthF cl < 0) := by
          unfold Hid lengthF
          split
          · decide
          · rw [if_neg]
            · decide
            · intro h
              have := (List.all_eq_true.1 h) c HM.out
              rw [hdd] at this; cases this
        have hr : Hid (kindF st names values = (0, 0, 180)) := by unfold Hid; rw [HN5.out, if_pos (.inr HE.out)]
        by_cases hlo : (48 : Int) ≤ c.toNat
        · have hhi : ¬ (c.toNat : Int) ≤ 57 := by omega
          clear hdg
          go_wp2_with (fail)
          go_ret3
          exact KindPost.of hr.out K2.out
        · clear hdg
          go_wp2_with (fail)
          go_ret3
          exact KindPost.of hr.out K2.out
    · have hex : ¬ (k : Int) < cl.length ∨ ((k : Int) < cl.length ∧ ¬ (k : Int) < 10) := by omega
      have HG := Lib.hid (And.intro hk hgo)
      clear hgo
      by_cases h1 : 1 < ncl
      · have h1' : (1 : Int) < ncl := by omega
        have hr : Hid (kindF st names values = (0, 0, 180)) := by unfold Hid; rw [HN5.out, if_pos (.inl h1)]
        clear hbd
        rcases hex with hex | ⟨hex, hex2⟩
        all_goals
          go_wp2_with (fail)
          go_ret3
          exact KindPost.of hr.out K2.out
      have h1' : ¬ (1 : Int) < ncl := by omega
      by_cases h0 : (cl.length : Int) < 1
      · have hr : Hid (kindF st names values = (0, 0, 180)) := by
          unfold Hid; rw [HN5.out, if_pos (.inr (by unfold lengthF; rw [if_pos (.inl (List.eq_nil_of_length_eq_zero (by omega)))]; decide))]
        clear hbd
        rcases hex with hex | ⟨hex, hex2⟩
        all_goals
          go_wp2_with (fail)
          go_ret3
          exact KindPost.of hr.out K2.out
      by_cases h9 : (9 : Int) < cl.length
      · have hr : Hid (kindF st names values = (0, 0, 180)) := by
          unfold Hid; rw [HN5.out, if_pos (.inr (by unfold lengthF; rw [if_pos (.inr (by omega))]; decide))]
        clear hbd
        rcases hex with hex | ⟨hex, hex2⟩
        all_goals
          go_wp2_with (fail)
          go_ret3
          exact KindPost.of hr.out K2.out
      have hkl : k = cl.length := by omega
      have ht : cl.take k = cl := List.take_of_length_le (by omega)
      have HLF : Hid (lengthF cl = digs cl) := by
        unfold Hid lengthF
        rw [if_neg (by rintro (h | h); (rw [h] at h0; simp at h0); omega), if_pos (by have := HA.out; rwa [ht] at this)]
      have hp := pow10_le k (by omega)
      rw [ht] at hbd ⊢
      obtain ⟨hb0, hb1⟩ : 0 ≤ digs cl ∧ digs cl < 1000000000 := by omega
      have hexk : ¬ (k : Int) < cl.length := by omega
      clear hbd hp ht hex hkl
      by_cases hbig : 1048576 < digs cl
      · have hr : Hid (kindF st names values = (0, 0, 181)) := by unfold Hid; rw [HN5.out, HLF.out, if_neg (by omega), if_pos hbig]
        go_wp2_with (fail)
        go_ret3
        exact KindPost.of hr.out K2.out
      · have hr : Hid (kindF st names values = (2, digs cl, 0)) := by unfold Hid; rw [HN5.out, HLF.out, if_neg (by omega), if_neg hbig]
        go_wp2_with (fail)
        go_ret3
        exact KindPost.of hr.out K2.out
end BD
end
section
namespace BD
set_option maxRecDepth 100000
/-! ### Bytes of the call's own -/
theorem byte_info : (Tryz.prog.info? 5).map (fun i => (i.zero, i.size, i.bytes)) = some (some (.int .u8 0), 1, 1) := by kernel_rfl
def OwnB (B : Nat) (v : Value) (l : List UInt8) (w : World) : Prop := ∃ p c, v = .slice p l.length c ∧ w.ownsRow B 5 1 (.slice p l.length c) l.length (Lib.byteCells l)
theorem OwnB.of {B : Nat} {v : Value} {l : List UInt8} {w : World} {n : Nat} {xs : List Value} (h : w.ownsRow B 5 1 v n xs) (hn : n = l.length) (hx : xs = Lib.byteCells l) : OwnB B v l w := by
  subst hn; subst hx
  rcases h.2 with ⟨rfl, h0⟩ | ⟨g, cap, cur, rfl, _⟩
  · have : l = [] := List.eq_nil_of_length_eq_zero h0
    subst this; exact ⟨none, 0, rfl, h⟩
  · exact ⟨_, _, rfl, h⟩
theorem B_one (l : List UInt8) : ∀ u ∈ Lib.byteCells l, u.oneCell' = true := by
  intro u hu
  obtain ⟨x, _, rfl⟩ := List.mem_map.1 hu
  rfl
theorem strCells_len (l : List UInt8) : (⟨l.toArray⟩ : ByteArray).size = l.length := by simp [ByteArray.size]
theorem conv_own {w : World} {B : Nat} {sp : Option Addr} {acc : List UInt8} {sc : Nat} (h : w.ownsRow B 5 1 (.slice sp acc.length sc) acc.length (Lib.byteCells acc)) :
    (convert 76 9 (.slice sp acc.length sc)).run Tryz.prog w = .ok (S acc) w := by
  rcases h.2 with ⟨e, h0⟩ | ⟨g, cap, cur, e, hb, hg, hnc, _, hsz, htake⟩
  · have : acc = [] := List.eq_nil_of_length_eq_zero h0
    subst this
    injection e with e1 e2 e3
    subst e1
    exact run_convert_bytes_nil w 76 5 Tryz.underlying76 Tryz.underlying5 _ _ 9 Tryz.underlying9
  · injection e with e1 e2 e3
    subst e1
    have hr := run_convert_bytes_arg (P := Tryz.prog) w 76 5 Tryz.underlying76 Tryz.underlying5 g 0 acc.length sc (acc.map fun c => (c.toNat : Int)) (by simp) (fun i hi => by
      rw [cell_at hg, Nat.zero_add]
      have h1 : (cur.toList.take (acc.length * 1))[i]? = some (Value.int .u8 ((acc.map fun c => (c.toNat : Int)).getD i 0)) := by rw [htake]; simp [Lib.byteCells, List.getD, hi]
      rw [List.getElem?_take_of_lt (by omega)] at h1
      rw [← Array.getElem?_toList]; exact h1) 9 Tryz.underlying9
    rw [hr]
    have : strOfNums (acc.map fun c => (c.toNat : Int)) = ⟨acc.toArray⟩ := by
      unfold strOfNums; rw [List.map_map]; congr 1
      have : acc.map ((fun n : Int => UInt8.ofNat n.toNat) ∘ fun c : UInt8 => (c.toNat : Int)) = acc := by
        conv => rhs; rw [← List.map_id acc]
        apply List.map_congr_left; intro x _; simp
      rw [this]
    rw [this]
theorem OwnB.keptS {B : Nat} {v : Value} {l : List UInt8} {w w' : World} {T : List Nat} (h : OwnB B v l w) (k : Kept T w w') (hs : ∀ x ∈ T, x < B) : OwnB B v l w' := by
  obtain ⟨p, c, e, h1, h2⟩ := h
  refine ⟨p, c, e, h1, ?_⟩
  rcases h2 with h0 | ⟨g, cap, cur, e2, hb, hg, hr⟩
  · exact .inl h0
  · exact .inr ⟨g, cap, cur, e2, hb, k.at hg (fun hm => by have := hs g hm; omega), hr⟩
theorem OwnB.kept1 {B b : Nat} {v : Value} {l : List UInt8} {w w' : World} (h : OwnB B v l w) (k : Kept [b] w w') (hs : b < B) : OwnB B v l w' := h.keptS k (by simp; exact hs)
theorem OwnB.lt {B : Nat} {v : Value} {l : List UInt8} {w : World} (h : OwnB B v l w) : ∀ q, v.ownBlock = some q → B ≤ q ∧ q < w.heap.size := by
  intro q hq
  obtain ⟨p, c, rfl, h1, h2⟩ := h
  rcases h2 with ⟨e, hn⟩ | ⟨g, cap, cur, e, hb, hg, _⟩
  · rw [e] at hq; cases hq
  · rw [e] at hq; cases hq; exact ⟨hb, lt_of_block hg⟩
theorem OwnB.nil (B : Nat) (w : World) : OwnB B (.slice none 0 0) [] w := ⟨none, 0, rfl, rfl, .inl ⟨rfl, rfl⟩⟩
theorem XAt.grown {w wa : World} {b : Nat} {x : Xr} {row : Option Nat} (h : XAt w b x) (g : w.grownBy wa row) (hr : row ≠ some b) : XAt wa b x :=
  (g.block b (lt_of_block h) (fun e => hr e.symm)).trans h
theorem Kept.grownN {a w w' : World} {row : Option Nat} (h : Kept [] a w) (g : w.grownBy w' row) (hr : ∀ k, row = some k → a.heap.size ≤ k) : Kept [] a w' :=
  ⟨g.os.trans h.os, g.tape.trans h.tape, g.output.trans h.output, Nat.le_trans h.size g.size, fun k hk hn =>
    (g.block k (by have := h.size; omega) (fun e => by have := hr k e.symm; omega)).trans (h.block k hk hn)⟩
/-! ### Run's loop -/
def Fin (x : Xr) (out : List UInt8) : Prop := Ended x out ∨ (x.e = 0 ∧ x.short = false ∧ ∃ r', Seen x out r' ∧ r'.state = 11 ∧ r'.rest = [])
def mX (L b : Nat) (w : World) : Nat :=
  match w.cell? ⟨b, 2, none⟩, w.cell? ⟨b, 3, none⟩, w.cell? ⟨b, 4, none⟩ with
  | some (.slice _ n _), some (.int _ e), some (.bool sh) => 2 * (L - n) + (if e = 0 ∧ sh = false then 1 else 0)
  | _, _, _ => 0
theorem mX_at {L b : Nat} {w : World} {x : Xr} {p : Option Addr} {n c : Nat} (h : XAt w b x) (hv : x.sv = .slice p n c) : mX L b w = 2 * (L - n) + (if okX x = true then 1 else 0) := by
  obtain ⟨_, _, c2, c3, c4⟩ := h.cells
  unfold mX
  rw [c2, c3, c4, hv]
  simp [okX]
theorem mX_own {L b B : Nat} {w : World} {x : Xr} {out : List UInt8} (h : XAt w b x) (hv : OwnB B x.sv out w) : mX L b w = 2 * (L - out.length) + (if okX x = true then 1 else 0) := by
  obtain ⟨p, c, e, _⟩ := hv
  exact mX_at h e
theorem out_le {s out : List UInt8} {r : Rd} {n : Nat} (h : feeds rdC (s.take n) = (r, out, 0)) : out.length ≤ s.length := by
  have h1 := out_feeds (s.take n) rdC
  rw [h] at h1
  simp at h1
  omega
def RunPost (R0 : Rd) (s : List UInt8) (w : World) (e : Ending) (w' : World) : Prop :=
  ∃ out used d k, e = .returned (.tuple #[S out, I used, .bool d, I k]) ∧ RunIs R0 s out used d k ∧ Kept [] w w'
def LoopR (b : Nat) (s : List UInt8) (w : World) (wr : World) : Prop :=
  ∃ (x' : Xr) (out : List UInt8), XAt wr b x' ∧ x'.s = s ∧ OwnB (b + 1) x'.sv out wr ∧ Kept [] w wr ∧ (Ended x' out ∨ InNum x' out (rdT out.length) 0 0)
set_option maxHeartbeats 1000000 in
theorem next_off (b : Nat) (x : Xr) (w : World) (h : XAt w b x) (ho : okX x = false) (hl : x.s.length ≤ 1000000) :
    Calls Tryz.prog 77 #[Ptr b] w fun e w' => e = .returned (B (nextB x)) ∧ XAt w' b (nextF x) ∧ Kept [b] w w' := by
  have ⟨c0, c1, c2, c3, c4⟩ := h.cells
  have ⟨f0, f1, f2, f3, f4⟩ := h.free
  have H := Lib.hid h
  clear h
  go_enter Tryz.func77, Tryz.ntmps77
  by_cases hlt : (x.pos : Int) < x.s.length
  · go_wp2_with (fail)
    go_quiet (fail)
    go_wp2_with (fail)
    refine (okX_any b x (w.drewN nq) H.out).mono ?_
    rintro e w' ⟨rfl, rfl⟩
    rw [ho]
    go_wp2_with (fail)
    go_ret
    refine ⟨by unfold nextB; rw [if_neg (by simp [ho])]; rfl, ?_, (Kept.refl _ _).drewN _⟩
    unfold nextF; rw [if_pos hlt, if_neg (by simp [ho])]; exact H.out
  · have hlf : decide ((x.pos : Int) < x.s.length) = false := decide_eq_false hlt
    go_wp2_with (fail)
    go_quiet (fail)
    go_wp2_with (fail)
    have h2 : XAt ((w.drewN nq).setCell ⟨b, 4, none⟩ (Value.bool true)) b { x with short := true } := XAt.set4 (w := w.drewN nq) (x := x) H.out true
    have k2 : Kept [b] w ((w.drewN nq).setCell ⟨b, 4, none⟩ (Value.bool true)) := ((Kept.refl [b] w).drewN nq).setCell (.inl (by simp)) _
    refine (okX_any b _ _ h2).mono ?_
    rintro e w' ⟨rfl, rfl⟩
    rw [show okX { x with short := true } = false by simp [okX]]
    go_wp2_with (fail)
    go_ret
    refine ⟨?_, by unfold nextF; rw [if_neg (by omega)]; exact h2, k2⟩
    unfold nextB; rw [if_neg (by simp [ho])]
    rfl
theorem next_gen (b : Nat) (x : Xr) (w : World) (h : XAt w b x) (hp : okX x = true → x.pos ≤ x.s.length) (hl : x.s.length ≤ 1000000) :
    Calls Tryz.prog 77 #[Ptr b] w fun e w' => e = .returned (B (nextB x)) ∧ XAt w' b (nextF x) ∧ Kept [b] w w' := by
  cases ho : okX x with
  | true => exact next_any b x w h (hp ho) hl
  | false => exact next_off b x w h ho hl
theorem by_s (x : Xr) (c : UInt8) : (byX x c).s = x.s := by unfold byX; rw [(must_s _ _ _).1, (next_s x).1]
theorem by_v (x : Xr) (c : UInt8) : (byX x c).sv = x.sv := by unfold byX; rw [(must_s _ _ _).2, (next_s x).2]
theorem chunk_end2 {x : Xr} {out : List UInt8} {n : Int} (h : Ended x out ∨ InChunk x out n n.toNat) : okX (byX x 13) = true → (byX x 13).pos ≤ (byX x 13).s.length := by
  rcases h with h | ⟨h1, h2, h3, h4, h5, h6⟩
  · intro ho; rw [(h.by 13).not_ok] at ho; cases ho
  have e5 : ((n.toNat : Nat) : Int) = n := by omega
  rw [e5, if_pos rfl] at h6
  have h7 := seen_by (c := 13) (r' := { rdC with told := out.length, state := 6, left := n - n, many := 0 }) h1 h2 h6 (by show (5 : Int) ≠ 11; decide) (fun d hd => in5_13 _ d rfl hd) (fun d hd => ⟨_, in5_else _ d rfl hd⟩)
  rcases h7 with h7 | ⟨g1, g2, g3⟩
  · intro ho; rw [h7.not_ok] at ho; cases ho
  · intro _; exact g3.1
theorem tail_end {x : Xr} {s o4 : List UInt8} {n : Int} {L ol : Nat} (hs : x.s.length = L) (hn : 0 ≤ n) (h : (Ended x o4 ∧ ol ≤ o4.length) ∨ (InChunk x o4 n n.toNat ∧ o4.length > ol)) :
    (2 * (L - o4.length) + (if okX (byX (byX x 13) 10) = true then 1 else 0) < 2 * (L - ol) + 1) ∧ (okX x = true → x.pos ≤ x.s.length) ∧ (okX (byX x 13) = true → (byX x 13).pos ≤ (byX x 13).s.length) ∧ (Ended (byX (byX x 13) 10) o4 ∨ InNum (byX (byX x 13) 10) o4 (rdT o4.length) 0 0) := by
  have h0 : Ended x o4 ∨ InChunk x o4 n n.toNat := by rcases h with h | h; exact .inl h.1; exact .inr h.1
  have hE := chunk_end h0
  refine ⟨?_, ?_, chunk_end2 h0, hE⟩
  · rcases hE with hE | hN
    · rw [hE.not_ok]
      have : ol ≤ o4.length := by rcases h with h | h; exact h.2; exact Nat.le_of_lt h.2
      simp; omega
    · have hol := out_le hN.2.2.2.2.2.2
      rw [by_s, by_s, hs] at hol
      rcases h with h | h
      · have h1 := ((h.1.by 13).by 10).not_ok
        have h2 : okX (byX (byX x 13) 10) = true := by simp [okX, hN.1, hN.2.1]
        rw [h1] at h2; cases h2
      · have := h.2
        split <;> simp <;> omega
  · rcases h with h | h
    · intro ho; rw [h.1.not_ok] at ho; cases ho
    · intro _; exact h.1.2.2.2.2.2.1
theorem start_num (s : List UInt8) (v : Value) : InNum ⟨s, 0, v, 0, false⟩ [] (rdT ([] : List UInt8).length) 0 0 :=
  ⟨rfl, rfl, by omega, by omega, by decide, Nat.zero_le _, by show feeds rdC (s.take 0) = _; rw [List.take_zero, feeds_nil]; rfl⟩
theorem own_kept {w w' : World} {base : Nat} {e : TypeId} {size : Nat} {v : Value} {n : Nat} {xs : List Value} (h : w.ownsRow base e size v n xs) (k : Kept [] w w') : w'.ownsRow base e size v n xs := by
  refine ⟨h.1, ?_⟩
  rcases h.2 with h0 | ⟨g, cap, cur, e2, hb, hg, hr⟩
  · exact .inl h0
  · exact .inr ⟨g, cap, cur, e2, hb, k.at hg (by simp), hr⟩
theorem xAt_new (w : World) (x : Xr) : XAt (w.alloc x.obj) w.heap.size x := heap_new w x.obj
theorem by_of {x : Xr} {c c5 : UInt8} {q : Bool} {k : Int} (hk : (c.toNat : Int) = k) (h1 : nextB x = c5) (h2 : ((c5.toNat : Int) == k) = q) : mustF (nextF x) q 180 = byX x c := by
  unfold byX; rw [← h2, h1, ← hk]; rfl
end BD
end
section
namespace BD

set_option maxRecDepth 100000 in
set_option maxHeartbeats 16000000 in
theorem run_any (hS : SmallSays) (st : Int) (nv vv : Value) (names values : List (List UInt8)) (s : List UInt8) (w : World) (hn : StrsAt w nv names) (hv : StrsAt w vv values) (hvs : ∀ s ∈ values, s.length ≤ 9223372036854775807) (hl : s.length ≤ 1000000)
    (R0 : Rd) (hR : newF st names values = (some R0, 0)) :
    Calls Tryz.prog 41 #[.agg #[I st, nv, vv], S s] w (RunPost R0 s w) := by
  obtain ⟨i0, hi0, hz0, hz1, hz2⟩ := info_parts byte_info
  have hA : Kept [] w (w.alloc (.cells #[I st, nv, vv] 53)) := (Kept.refl _ _).alloc _
  have HK0 := kind_any hS st nv vv names values (w.alloc (.cells #[I st, nv, vv] 53)) (hn.kept hA) (hv.kept hA) hvs
  obtain ⟨kd, sz, hkf, hkd⟩ : ∃ kd sz, kindF st names values = (kd, sz, 0) ∧ KindOf kd sz R0 := by
    rcases kind_new st names values with ⟨k, h1, _, _⟩ | ⟨kd, sz, R, h1, h2, h3⟩
    · rw [hR] at h1; cases h1
    · rw [hR] at h1
      have : R0 = R := by injection h1 with h _; injection h
      subst this
      exact ⟨kd, sz, h2, h3⟩
  rw [hkf] at HK0
  have HK1 := Lib.hid HK0
  have HA := Lib.hid hA
  clear HK0 hkf hR hA hn hv
  go_enter Tryz.func41, Tryz.ntmps41
  go_wp2_with (fail)
  refine HK1.out.mono ?_
  rintro e w1 ⟨rfl, k1⟩
  have K1 := Lib.hid (HA.out.trans' k1)
  clear k1 HK1
  rcases hkd with ⟨rfl, rfl, rfl⟩ | ⟨rfl, rfl, rfl⟩ | ⟨rfl, hsz0, hsz1, rfl⟩ | ⟨rfl, rfl, rfl⟩
  · go_wp2_with (fail)
    exact bodyPost_ret (v := .tuple #[S [], I 0, .bool true, I 0]) (by simp [results, Tryz.results41, go_sem]) rfl ⟨[], 0, true, 0, rfl, run_none s, K1.out⟩
  · have hB : w.heap.size ≤ w1.heap.size := K1.out.size
    obtain ⟨b, hb⟩ : ∃ b, w1.heap.size = b := ⟨_, rfl⟩
    have HX0 : Hid (XAt (w1.alloc (Xr.obj ⟨s, 0, .slice none 0 0, 0, false⟩)) b ⟨s, 0, .slice none 0 0, 0, false⟩) := Lib.hid (by rw [← hb]; exact xAt_new w1 _)
    have HB : Hid (w.heap.size ≤ b) := Lib.hid (by omega)
    go_wp2_with (fail)
    go_loopw [13, 14, 15, 16] (fun _ _ _ _ wr => LoopR b s w wr) (fun _ _ _ _ wr => mX s.length b wr)
    case atStart => exact ⟨⟨s, 0, .slice none 0 0, 0, false⟩, [], HX0.out, rfl, OwnB.nil _ _, K1.out.alloc _, .inr (start_num s _)⟩
    case round =>
      obtain ⟨x1, out, h1, hs1, ho1, hk1, hc1⟩ := hrel
      clear hb hB
      rcases hc1 with hE | hN
      · have hok := hE.not_ok
        have HR := Lib.hid (And.intro h1 (And.intro hs1 (And.intro ho1 (And.intro hk1 hE))))
        clear h1 hs1 ho1 hk1 hE
        go_wp2_with (fail)
        refine (okX_any b x1 wr HR.out.1).mono ?_
        rintro e w' ⟨rfl, rfl⟩
        rw [hok]
        obtain ⟨xe, oe, hxe, hse, hoe, hke, hfin⟩ : ∃ xe oe, XAt wr b xe ∧ xe.s = s ∧ OwnB (b + 1) xe.sv oe wr ∧ Kept [] w wr ∧ Fin xe oe := ⟨x1, out, HR.out.1, HR.out.2.1, HR.out.2.2.1, HR.out.2.2.2.1, .inl HR.out.2.2.2.2⟩
        obtain ⟨ec0, ec1, ec2, ec3, ec4⟩ := hxe.cells
        obtain ⟨ef0, ef1, ef2, ef3, ef4⟩ := hxe.free
        obtain ⟨pe, ce, hve, hoe⟩ := hoe
        rw [hve] at ec2
        have HXE := Lib.hid (And.intro hxe (And.intro hse (And.intro hve (And.intro hoe (And.intro hke hfin)))))
        clear hxe hse hve hke hfin
        by_cases he0 : xe.e = 0
        · have hd : ∃ d : Bool, xe.short = !d ∧ RunIs rdC s oe xe.pos d 0 := by
            have hs := HXE.out.2.1
            rcases HXE.out.2.2.2.2.2 with h | ⟨h1, h2, r', h3, h4, h5⟩
            · obtain ⟨g1, g2⟩ := (ended_run h).2 he0
              exact ⟨false, by rw [g1]; rfl, by rw [← hs]; exact g2⟩
            · exact ⟨true, by rw [h2]; rfl, by rw [← hs]; exact done_run h3 h4 h5⟩
          obtain ⟨d, hd1, hd2⟩ := hd
          rw [hd1] at ec4
          rw [he0] at ec3
          have HD := Lib.hid hd2
          have hcv := conv_own hoe
          have hcvn : ∀ n, (convert 76 9 (.slice pe oe.length ce)).run Tryz.prog (wr.drewN n) = .ok (S oe) (wr.drewN n) := fun n => conv_own (w := wr.drewN n) hoe
          clear hd1 hd2 he0 hoe
          go_wp2_with (fail)
          go_quiet (fail)
          go_wp2_with (fail)
          exact bodyPost_ret (v := .tuple #[S oe, I xe.pos, .bool d, I 0]) (by simp [results, Tryz.results41, go_sem]) rfl ⟨oe, xe.pos, d, 0, rfl, HD.out, HXE.out.2.2.2.2.1.drewN _⟩
        · have heb : (xe.e != 0) = true := by simpa using he0
          have HD : Hid (RunIs rdC s [] 0 false xe.e) := Lib.hid (by
            have hs := HXE.out.2.1
            rcases HXE.out.2.2.2.2.2 with h | ⟨h1, h2, r', h3, h4, h5⟩
            · rw [← hs]; exact (ended_run h).1 he0
            · exact absurd h1 he0)
          clear hoe he0
          go_wp2_with (fail)
          go_quiet (fail)
          go_wp2_with (fail)
          exact bodyPost_ret (v := .tuple #[S [], I 0, .bool false, I xe.e]) (by simp [results, Tryz.results41, go_sem]) rfl ⟨[], 0, false, xe.e, rfl, HD.out, HXE.out.2.2.2.2.1.drewN _⟩
      · have hok : okX x1 = true := by simp [okX, hN.1, hN.2.1]
        have hp1 : x1.pos ≤ x1.s.length := hN.2.2.2.2.2.1
        have hol : out.length ≤ 1000000 := by have := out_le hN.2.2.2.2.2.2; rw [hs1] at this; omega
        have HR := Lib.hid (And.intro h1 (And.intro hs1 (And.intro ho1 (And.intro hk1 hN))))
        clear h1 hs1 ho1 hk1 hN
        go_wp2_with (fail)
        refine (okX_any b x1 wr HR.out.1).mono ?_
        rintro e w' ⟨rfl, rfl⟩
        rw [hok]
        go_wp2_with (fail)
        refine (xnumber_any b x1 out (rdT out.length) wr HR.out.1 hp1 (by rw [HR.out.2.1]; exact hl) (.inr HR.out.2.2.2.2)).mono ?_
        rintro e w2 ⟨n, rfl, k2, x2, h2, hs2, hv2, hn0, hn1, hc2⟩
        obtain ⟨q2, hq2⟩ : ∃ q, decide (n ≤ 1048576 - (out.length : Int)) = q := ⟨_, rfl⟩
        have hm2 := num_must hc2 hq2.symm (by omega)
        have ho2 : OwnB (b + 1) x2.sv out w2 := by rw [hv2]; exact HR.out.2.2.1.kept1 k2 (by omega)
        obtain ⟨p2, cp2, hv2', hw2⟩ := ho2
        obtain ⟨c0, c1, c2, c3, c4⟩ := h2.cells
        rw [hv2'] at c2
        have H2 := Lib.hid (And.intro h2 (And.intro (hs2.trans HR.out.2.1) (And.intro k2 (And.intro hv2' (And.intro hw2 hm2)))))
        clear h2 hs2 hv2 hv2' hw2 k2 hm2 hc2 c0 c1 c3 c4
        go_wp2_with (fail)
        refine (must_any b x2 q2 181 w2 H2.out.1).mono ?_
        rintro e w3 ⟨rfl, h3, k3⟩
        obtain ⟨x3, hx3⟩ : ∃ x3, mustF x2 q2 181 = x3 := ⟨_, rfl⟩
        have hm3 := H2.out.2.2.2.2.2
        rw [hx3] at h3 hm3
        have hs3 : x3.s = s := by rw [← hx3, (must_s _ _ _).1]; exact H2.out.2.1
        have ho3 : OwnB (b + 1) x3.sv out w3 := by
          rw [← hx3, (must_s _ _ _).2]
          exact OwnB.kept1 ⟨p2, cp2, H2.out.2.2.2.1, H2.out.2.2.2.2.1⟩ k3 (by omega)
        have hk3 : Kept [] w w3 := HR.out.2.2.2.1.new1 (H2.out.2.2.1.trans' k3) HB.out
        clear hx3 k3 hq2 c2 H2
        rcases hm3 with hE3 | ⟨hok3, hz3, hc3⟩
        · have hok3 := hE3.not_ok
          have hc3 : Ended x3 out ∨ InChunk x3 out n 0 := .inl hE3
          have HI2 := Lib.hid (And.intro h3 (And.intro hs3 (And.intro ho3 (And.intro hk3 hc3))))
          clear h3 hs3 ho3 hk3 hc3 hE3
          go_wp2_with (fail)
          refine (okX_any b x3 w3 HI2.out.1).mono ?_
          rintro e w' ⟨rfl, rfl⟩
          rw [hok3]
          obtain ⟨h3, hs3, ho3, hk3, hc3⟩ := HI2.out
          clear HI2
          go_wp2_with (fail)
          have HI3 := Lib.hid (And.intro h3 (And.intro hs3 (And.intro ho3 (And.intro hk3 hc3))))
          clear h3 hs3 ho3 hk3 hc3
          go_loopw [14, 15] (fun iv _ wi => ∃ (x4 : Xr) (o4 : List UInt8) (i : Nat), iv = I i ∧ (i : Int) ≤ n ∧ XAt wi b x4 ∧ x4.s = s ∧ OwnB (b + 1) x4.sv o4 wi ∧ Kept [] w wi ∧ ((Ended x4 o4 ∧ out.length ≤ o4.length) ∨ (InChunk x4 o4 n i ∧ o4.length = out.length + i))) (fun iv _ _ => (n - intOf iv).toNat)
          case atStart => exact ⟨x3, out, 0, rfl, by omega, HI3.out.1, HI3.out.2.1, HI3.out.2.2.1, HI3.out.2.2.2.1, by rcases HI3.out.2.2.2.2 with h | h; exact .inl ⟨h, Nat.le_refl _⟩; exact .inr ⟨h, rfl⟩⟩
          case round =>
            obtain ⟨x4, o4, i, rfl, hi, h4, hs4, ho4, hk4, hc4⟩ := hrel
            by_cases hlt : (i : Int) < n
            · rcases hc4 with ⟨hE4, hle4⟩ | ⟨hC4, hle4⟩
              · have hok4 := hE4.not_ok
                have HT := Lib.hid (And.intro h4 (And.intro hs4 (And.intro ho4 (And.intro hk4 (tail_end (s := s) (n := n) (L := s.length) (ol := out.length) (by rw [hs4]) (by omega) (.inl ⟨hE4, hle4⟩))))))
                clear h4 hs4 ho4 hk4 hE4 hle4
                go_wp2_with (fail)
                refine (okX_any b x4 _ HT.out.1).mono ?_
                rintro e w' ⟨rfl, rfl⟩
                rw [hok4]
                go_wp2_with (fail)
                refine (next_gen b x4 _ HT.out.1 HT.out.2.2.2.2.2.1 (by rw [HT.out.2.1]; exact hl)).mono ?_
                rintro e w5 ⟨rfl, h5, k5⟩
                obtain ⟨c5, hc5⟩ : ∃ c, nextB x4 = c := ⟨_, rfl⟩
                rw [hc5]
                obtain ⟨q5, hq5⟩ : ∃ q, ((c5.toNat : Int) == 13) = q := ⟨_, rfl⟩
                have H5 := Lib.hid (And.intro h5 (And.intro k5 (And.intro hc5 hq5)))
                clear h5 k5 hc5
                go_wp2_with (fail)
                refine (must_any b (nextF x4) q5 180 w5 H5.out.1).mono ?_
                rintro e w6 ⟨rfl, h6, k6⟩
                have hby : mustF (nextF x4) q5 180 = byX x4 13 := by_of (by decide) H5.out.2.2.1 H5.out.2.2.2
                rw [hby] at h6
                have H6 := Lib.hid (And.intro h6 (H5.out.2.1.trans' k6))
                clear h6 k6 hby hq5 H5
                go_wp2_with (fail)
                refine (next_gen b (byX x4 13) w6 H6.out.1 HT.out.2.2.2.2.2.2.1 (by rw [by_s, HT.out.2.1]; exact hl)).mono ?_
                rintro e w7 ⟨rfl, h7, k7⟩
                obtain ⟨c7, hc7⟩ : ∃ c, nextB (byX x4 13) = c := ⟨_, rfl⟩
                rw [hc7]
                obtain ⟨q7, hq7⟩ : ∃ q, ((c7.toNat : Int) == 10) = q := ⟨_, rfl⟩
                have H7 := Lib.hid (And.intro h7 (And.intro (H6.out.2.trans' k7) (And.intro hc7 hq7)))
                clear h7 k7 hc7 H6
                go_wp2_with (fail)
                refine (must_any b (nextF (byX x4 13)) q7 180 w7 H7.out.1).mono ?_
                rintro e w8 ⟨rfl, h8, k8⟩
                have hby : mustF (nextF (byX x4 13)) q7 180 = byX (byX x4 13) 10 := by_of (by decide) H7.out.2.2.1 H7.out.2.2.2
                rw [hby] at h8
                have H8 := Lib.hid (And.intro h8 (H7.out.2.1.trans' k8))
                clear h8 k8 hby hq7 H7
                go_wp2_with (fail)
                go_roundw
                case rel => exact ⟨byX (byX x4 13) 10, o4, H8.out.1, by rw [by_s, by_s]; exact HT.out.2.1, by rw [by_v, by_v]; exact HT.out.2.2.1.kept1 H8.out.2 (by omega), HT.out.2.2.2.1.new1 H8.out.2 HB.out, HT.out.2.2.2.2.2.2.2⟩
                case measure =>
                  have hv8 : OwnB (b + 1) (byX (byX x4 13) 10).sv o4 w8 := by rw [by_v, by_v]; exact HT.out.2.2.1.kept1 H8.out.2 (by omega)
                  rw [mX_own HR.out.1 HR.out.2.2.1, mX_own H8.out.1 hv8, if_pos hok]
                  exact HT.out.2.2.2.2.1 
              · have hok4 : okX x4 = true := by simp [okX, hC4.1, hC4.2.1]
                have hp4 : x4.pos ≤ x4.s.length := hC4.2.2.2.2.2.1
                have hcn := chunk_next hC4 hlt
                have hlo4 : o4.length ≤ 1048576 := by have := hC4.2.2.2.2.1; omega
                obtain ⟨xn, hxn⟩ : ∃ xn, nextF x4 = xn := ⟨_, rfl⟩
                obtain ⟨cn, hcnb⟩ : ∃ cn, nextB x4 = cn := ⟨_, rfl⟩
                have hsn : xn.s = s ∧ xn.sv = x4.sv := by rw [← hxn]; exact ⟨(next_s x4).1.trans hs4, (next_s x4).2⟩
                rw [hxn, hcnb] at hcn
                have HC := Lib.hid (And.intro h4 (And.intro hs4 (And.intro ho4 (And.intro hk4 (And.intro hle4 (And.intro hxn (And.intro hcnb (And.intro hsn hcn))))))))
                clear h4 hs4 ho4 hk4 hC4 hle4 hxn hcnb hsn hcn
                go_wp2_with (fail)
                refine (okX_any b x4 _ HC.out.1).mono ?_
                rintro e w' ⟨rfl, rfl⟩
                rw [hok4]
                go_wp2_with (fail)
                refine (next_any b x4 _ HC.out.1 hp4 (by rw [HC.out.2.1]; exact hl)).mono ?_
                rintro e w5 ⟨rfl, h5, k5⟩
                rw [HC.out.2.2.2.2.2.1] at h5
                rw [HC.out.2.2.2.2.2.2.1]
                have ho5 : OwnB (b + 1) x4.sv o4 w5 := HC.out.2.2.1.kept1 k5 (by omega)
                have H5 := Lib.hid (And.intro h5 (And.intro ho5 (HC.out.2.2.2.1.new1 k5 HB.out)))
                clear h5 k5 ho5
                go_wp2_with (fail)
                refine (okX_any b xn w5 H5.out.1).mono ?_
                rintro e w' ⟨rfl, rfl⟩
                rcases HC.out.2.2.2.2.2.2.2.2 with ⟨hokn, hCn⟩ | ⟨hokn, hEn⟩
                · rw [hokn]
                  have HN := Lib.hid hCn
                  clear hCn
                  obtain ⟨p5, cp5, hv5, hw5⟩ := H5.out.2.1
                  obtain ⟨d0, d1, d2, d3, d4⟩ := H5.out.1.cells
                  obtain ⟨f0, f1, f2, f3, f4⟩ := H5.out.1.free
                  rw [HC.out.2.2.2.2.2.2.2.1.2, hv5] at d2
                  have HW5 := Lib.hid (And.intro hw5 hv5)
                  have hB5 := Lib.hid (Nat.lt_of_lt_of_le (lt_of_block H5.out.1) (Nat.le_refl _))
                  clear hw5 hv5
                  have hob : ∀ q, (Value.slice p5 o4.length cp5).ownBlock = some q → b + 1 ≤ q ∧ q < w5.heap.size := OwnB.lt ⟨p5, cp5, rfl, HW5.out.1⟩
                  have HOB := Lib.hid hob
                  clear hob
                  go_wp2_with (at_builtin
                               refine wpList_append_lies _ rfl (.tmp 92) (.tmp 94) _ rfl (b + 1) 5 i0 (.int .u8 0) 1 1 Tryz.underlying76 hi0 hz0 hz1 hz2 rfl (by decide) (.slice p5 o4.length cp5) o4.length (Lib.byteCells o4) rfl (own_kept HW5.out.1 ((Kept.refl [] w5).alloc _)) ⟨w5.heap.size, 0, none⟩ 1 1 (Lib.byteCells [cn]) rfl rfl (World.news_of_block (heap_new w5 _)) (B_one _) (by decide) (by unfold maxLen; omega) (by omega) (by have := hB5.out; simp; omega) _ rfl ?_
                               intro g cap wa own1 gr1 hat1 hlt1
                               have ha1 : XAt wa b xn := XAt.grown (w := w5.alloc (.cells #[B cn] 5)) (H5.out.1.kept ((Kept.refl [] w5).alloc _) (by simp)) gr1 (fun e => by have := (HOB.out b e).1; omega)
                               have hka1 : Kept [] w wa := (H5.out.2.2.alloc _).grownN gr1 (fun k e => by have h1 := (HOB.out k e).1; have h2 := HB.out; omega)
                               have hfa := ha1.free
                               have HA1 := Lib.hid (And.intro own1 (And.intro ha1 hka1))
                               obtain ⟨⟨e0, e1, e2, e3, e4⟩, ⟨e5, e6, e7, e8, e9⟩⟩ := And.intro hfa ha1.cells
                               clear own1 gr1 ha1 hka1 hat1)
                  have h6 := XAt.set2 HA1.out.2.1 (.slice (some ⟨g, 0, none⟩) (o4.length + 1) cap)
                  have hk6 : Kept [b] wa (wa.setCell ⟨b, 2, none⟩ (.slice (some ⟨g, 0, none⟩) (o4.length + 1) cap)) := (Kept.refl [b] wa).setCell (.inl (by simp)) _
                  have ho6 : OwnB (b + 1) (.slice (some ⟨g, 0, none⟩) (o4.length + 1) cap) (o4 ++ [cn]) wa := OwnB.of HA1.out.1 (by simp) (by rw [Lib.byteCells_append])
                  go_roundw
                  case rel => exact ⟨{ xn with sv := .slice (some ⟨g, 0, none⟩) (o4.length + 1) cap }, o4 ++ [cn], i + 1, by go_num, by omega, h6, HC.out.2.2.2.2.2.2.2.1.1, ho6.kept1 hk6 (by omega), HA1.out.2.2.new1 hk6 HB.out, .inr ⟨HN.out, by have := HC.out.2.2.2.2.1; simp; omega⟩⟩
                  case measure => simp [intOf]; omega
                · rw [hokn]
                  have HN := Lib.hid hEn
                  clear hEn
                  go_wp2_with (fail)
                  go_roundw
                  case rel => exact ⟨xn, o4, i + 1, by go_num, by omega, H5.out.1, HC.out.2.2.2.2.2.2.2.1.1, by rw [HC.out.2.2.2.2.2.2.2.1.2]; exact H5.out.2.1, H5.out.2.2, .inl ⟨HN.out, by have := HC.out.2.2.2.2.1; omega⟩⟩
                  case measure => simp [intOf]; omega
            · have HT := Lib.hid (And.intro h4 (And.intro hs4 (And.intro ho4 (And.intro hk4 (tail_end (s := s) (n := n) (L := s.length) (ol := out.length) (by rw [hs4]) (by omega) (by
                rcases hc4 with h | ⟨h1, h2⟩
                · exact .inl h
                · have hin : n.toNat = i := by omega
                  exact .inr ⟨by rw [hin]; exact h1, by have := h1.2.2.1; omega⟩))))))
              clear h4 hs4 ho4 hk4 hc4
              go_wp2_with (fail)
              refine (next_gen b x4 _ HT.out.1 HT.out.2.2.2.2.2.1 (by rw [HT.out.2.1]; exact hl)).mono ?_
              rintro e w5 ⟨rfl, h5, k5⟩
              obtain ⟨c5, hc5⟩ : ∃ c, nextB x4 = c := ⟨_, rfl⟩
              rw [hc5]
              obtain ⟨q5, hq5⟩ : ∃ q, ((c5.toNat : Int) == 13) = q := ⟨_, rfl⟩
              have H5 := Lib.hid (And.intro h5 (And.intro k5 (And.intro hc5 hq5)))
              clear h5 k5 hc5
              go_wp2_with (fail)
              refine (must_any b (nextF x4) q5 180 w5 H5.out.1).mono ?_
              rintro e w6 ⟨rfl, h6, k6⟩
              have hby : mustF (nextF x4) q5 180 = byX x4 13 := by_of (by decide) H5.out.2.2.1 H5.out.2.2.2
              rw [hby] at h6
              have H6 := Lib.hid (And.intro h6 (H5.out.2.1.trans' k6))
              clear h6 k6 hby hq5 H5
              go_wp2_with (fail)
              refine (next_gen b (byX x4 13) w6 H6.out.1 HT.out.2.2.2.2.2.2.1 (by rw [by_s, HT.out.2.1]; exact hl)).mono ?_
              rintro e w7 ⟨rfl, h7, k7⟩
              obtain ⟨c7, hc7⟩ : ∃ c, nextB (byX x4 13) = c := ⟨_, rfl⟩
              rw [hc7]
              obtain ⟨q7, hq7⟩ : ∃ q, ((c7.toNat : Int) == 10) = q := ⟨_, rfl⟩
              have H7 := Lib.hid (And.intro h7 (And.intro (H6.out.2.trans' k7) (And.intro hc7 hq7)))
              clear h7 k7 hc7 H6
              go_wp2_with (fail)
              refine (must_any b (nextF (byX x4 13)) q7 180 w7 H7.out.1).mono ?_
              rintro e w8 ⟨rfl, h8, k8⟩
              have hby : mustF (nextF (byX x4 13)) q7 180 = byX (byX x4 13) 10 := by_of (by decide) H7.out.2.2.1 H7.out.2.2.2
              rw [hby] at h8
              have H8 := Lib.hid (And.intro h8 (H7.out.2.1.trans' k8))
              clear h8 k8 hby hq7 H7
              go_wp2_with (fail)
              go_roundw
              case rel => exact ⟨byX (byX x4 13) 10, o4, H8.out.1, by rw [by_s, by_s]; exact HT.out.2.1, by rw [by_v, by_v]; exact HT.out.2.2.1.kept1 H8.out.2 (by omega), HT.out.2.2.2.1.new1 H8.out.2 HB.out, HT.out.2.2.2.2.2.2.2⟩
              case measure =>
                have hv8 : OwnB (b + 1) (byX (byX x4 13) 10).sv o4 w8 := by rw [by_v, by_v]; exact HT.out.2.2.1.kept1 H8.out.2 (by omega)
                rw [mX_own HR.out.1 HR.out.2.2.1, mX_own H8.out.1 hv8, if_pos hok]
                exact HT.out.2.2.2.2.1 
        · by_cases hnz : n = 0
          · have hb3 := hz3 hnz
            have hp3 : x3.pos ≤ x3.s.length := by obtain ⟨_, _, _, _, _, _, h⟩ := hb3; exact h.1
            have HI2 := Lib.hid (And.intro h3 (And.intro hs3 (And.intro ho3 (And.intro hk3 hb3))))
            clear h3 hs3 ho3 hk3 hb3 hz3 hc3
            subst hnz
            go_wp2_with (fail)
            refine (okX_any b x3 w3 HI2.out.1).mono ?_
            rintro e w' ⟨rfl, rfl⟩
            rw [hok3]
            go_wp2_with (fail)
            refine (xbehind_any b x3 out w3 HI2.out.1 hp3 (by rw [HI2.out.2.1]; exact hl) (.inr HI2.out.2.2.2.2)).mono ?_
            rintro e w4 ⟨rfl, k4, x4, h4, hs4, hv4, hc4⟩
            obtain ⟨xe, oe, hxe, hse, hoe, hke, hfin⟩ : ∃ xe oe, XAt w4 b xe ∧ xe.s = s ∧ OwnB (b + 1) xe.sv oe w4 ∧ Kept [] w w4 ∧ Fin xe oe := ⟨x4, out, h4, hs4.trans HI2.out.2.1, by rw [hv4]; exact HI2.out.2.2.1.kept1 k4 (by omega), HI2.out.2.2.2.1.new1 k4 HB.out, hc4⟩
            clear h4 hs4 hv4 hc4 k4
            obtain ⟨ec0, ec1, ec2, ec3, ec4⟩ := hxe.cells
            obtain ⟨ef0, ef1, ef2, ef3, ef4⟩ := hxe.free
            obtain ⟨pe, ce, hve, hoe⟩ := hoe
            rw [hve] at ec2
            have HXE := Lib.hid (And.intro hxe (And.intro hse (And.intro hve (And.intro hoe (And.intro hke hfin)))))
            clear hxe hse hve hke hfin
            by_cases he0 : xe.e = 0
            · have hd : ∃ d : Bool, xe.short = !d ∧ RunIs rdC s oe xe.pos d 0 := by
                have hs := HXE.out.2.1
                rcases HXE.out.2.2.2.2.2 with h | ⟨h1, h2, r', h3, h4, h5⟩
                · obtain ⟨g1, g2⟩ := (ended_run h).2 he0
                  exact ⟨false, by rw [g1]; rfl, by rw [← hs]; exact g2⟩
                · exact ⟨true, by rw [h2]; rfl, by rw [← hs]; exact done_run h3 h4 h5⟩
              obtain ⟨d, hd1, hd2⟩ := hd
              rw [hd1] at ec4
              rw [he0] at ec3
              have HD := Lib.hid hd2
              have hcv := conv_own hoe
              have hcvn : ∀ n, (convert 76 9 (.slice pe oe.length ce)).run Tryz.prog (w4.drewN n) = .ok (S oe) (w4.drewN n) := fun n => conv_own (w := w4.drewN n) hoe
              clear hd1 hd2 he0 hoe
              go_wp2_with (fail)
              go_quiet (fail)
              go_wp2_with (fail)
              exact bodyPost_ret (v := .tuple #[S oe, I xe.pos, .bool d, I 0]) (by simp [results, Tryz.results41, go_sem]) rfl ⟨oe, xe.pos, d, 0, rfl, HD.out, HXE.out.2.2.2.2.1.drewN _⟩
            · have heb : (xe.e != 0) = true := by simpa using he0
              have HD : Hid (RunIs rdC s [] 0 false xe.e) := Lib.hid (by
                have hs := HXE.out.2.1
                rcases HXE.out.2.2.2.2.2 with h | ⟨h1, h2, r', h3, h4, h5⟩
                · rw [← hs]; exact (ended_run h).1 he0
                · exact absurd h1 he0)
              clear hoe he0
              go_wp2_with (fail)
              go_quiet (fail)
              go_wp2_with (fail)
              exact bodyPost_ret (v := .tuple #[S [], I 0, .bool false, I xe.e]) (by simp [results, Tryz.results41, go_sem]) rfl ⟨[], 0, false, xe.e, rfl, HD.out, HXE.out.2.2.2.2.1.drewN _⟩
          · have hnb : (n == 0) = false := by simpa using hnz
            have hc3 : Ended x3 out ∨ InChunk x3 out n 0 := .inr (hc3 hnz)
            have HI2 := Lib.hid (And.intro h3 (And.intro hs3 (And.intro ho3 (And.intro hk3 hc3))))
            clear h3 hs3 ho3 hk3 hc3 hz3 hnz
            go_wp2_with (fail)
            refine (okX_any b x3 w3 HI2.out.1).mono ?_
            rintro e w' ⟨rfl, rfl⟩
            rw [hok3]
            obtain ⟨h3, hs3, ho3, hk3, hc3⟩ := HI2.out
            clear HI2
            go_wp2_with (fail)
            have HI3 := Lib.hid (And.intro h3 (And.intro hs3 (And.intro ho3 (And.intro hk3 hc3))))
            clear h3 hs3 ho3 hk3 hc3
            go_loopw [14, 15] (fun iv _ wi => ∃ (x4 : Xr) (o4 : List UInt8) (i : Nat), iv = I i ∧ (i : Int) ≤ n ∧ XAt wi b x4 ∧ x4.s = s ∧ OwnB (b + 1) x4.sv o4 wi ∧ Kept [] w wi ∧ ((Ended x4 o4 ∧ out.length ≤ o4.length) ∨ (InChunk x4 o4 n i ∧ o4.length = out.length + i))) (fun iv _ _ => (n - intOf iv).toNat)
            case atStart => exact ⟨x3, out, 0, rfl, by omega, HI3.out.1, HI3.out.2.1, HI3.out.2.2.1, HI3.out.2.2.2.1, by rcases HI3.out.2.2.2.2 with h | h; exact .inl ⟨h, Nat.le_refl _⟩; exact .inr ⟨h, rfl⟩⟩
            case round =>
              obtain ⟨x4, o4, i, rfl, hi, h4, hs4, ho4, hk4, hc4⟩ := hrel
              by_cases hlt : (i : Int) < n
              · rcases hc4 with ⟨hE4, hle4⟩ | ⟨hC4, hle4⟩
                · have hok4 := hE4.not_ok
                  have HT := Lib.hid (And.intro h4 (And.intro hs4 (And.intro ho4 (And.intro hk4 (tail_end (s := s) (n := n) (L := s.length) (ol := out.length) (by rw [hs4]) (by omega) (.inl ⟨hE4, hle4⟩))))))
                  clear h4 hs4 ho4 hk4 hE4 hle4
                  go_wp2_with (fail)
                  refine (okX_any b x4 _ HT.out.1).mono ?_
                  rintro e w' ⟨rfl, rfl⟩
                  rw [hok4]
                  go_wp2_with (fail)
                  refine (next_gen b x4 _ HT.out.1 HT.out.2.2.2.2.2.1 (by rw [HT.out.2.1]; exact hl)).mono ?_
                  rintro e w5 ⟨rfl, h5, k5⟩
                  obtain ⟨c5, hc5⟩ : ∃ c, nextB x4 = c := ⟨_, rfl⟩
                  rw [hc5]
                  obtain ⟨q5, hq5⟩ : ∃ q, ((c5.toNat : Int) == 13) = q := ⟨_, rfl⟩
                  have H5 := Lib.hid (And.intro h5 (And.intro k5 (And.intro hc5 hq5)))
                  clear h5 k5 hc5
                  go_wp2_with (fail)
                  refine (must_any b (nextF x4) q5 180 w5 H5.out.1).mono ?_
                  rintro e w6 ⟨rfl, h6, k6⟩
                  have hby : mustF (nextF x4) q5 180 = byX x4 13 := by_of (by decide) H5.out.2.2.1 H5.out.2.2.2
                  rw [hby] at h6
                  have H6 := Lib.hid (And.intro h6 (H5.out.2.1.trans' k6))
                  clear h6 k6 hby hq5 H5
                  go_wp2_with (fail)
                  refine (next_gen b (byX x4 13) w6 H6.out.1 HT.out.2.2.2.2.2.2.1 (by rw [by_s, HT.out.2.1]; exact hl)).mono ?_
                  rintro e w7 ⟨rfl, h7, k7⟩
                  obtain ⟨c7, hc7⟩ : ∃ c, nextB (byX x4 13) = c := ⟨_, rfl⟩
                  rw [hc7]
                  obtain ⟨q7, hq7⟩ : ∃ q, ((c7.toNat : Int) == 10) = q := ⟨_, rfl⟩
                  have H7 := Lib.hid (And.intro h7 (And.intro (H6.out.2.trans' k7) (And.intro hc7 hq7)))
                  clear h7 k7 hc7 H6
                  go_wp2_with (fail)
                  refine (must_any b (nextF (byX x4 13)) q7 180 w7 H7.out.1).mono ?_
                  rintro e w8 ⟨rfl, h8, k8⟩
                  have hby : mustF (nextF (byX x4 13)) q7 180 = byX (byX x4 13) 10 := by_of (by decide) H7.out.2.2.1 H7.out.2.2.2
                  rw [hby] at h8
                  have H8 := Lib.hid (And.intro h8 (H7.out.2.1.trans' k8))
                  clear h8 k8 hby hq7 H7
                  go_wp2_with (fail)
                  go_roundw
                  case rel => exact ⟨byX (byX x4 13) 10, o4, H8.out.1, by rw [by_s, by_s]; exact HT.out.2.1, by rw [by_v, by_v]; exact HT.out.2.2.1.kept1 H8.out.2 (by omega), HT.out.2.2.2.1.new1 H8.out.2 HB.out, HT.out.2.2.2.2.2.2.2⟩
                  case measure =>
                    have hv8 : OwnB (b + 1) (byX (byX x4 13) 10).sv o4 w8 := by rw [by_v, by_v]; exact HT.out.2.2.1.kept1 H8.out.2 (by omega)
                    rw [mX_own HR.out.1 HR.out.2.2.1, mX_own H8.out.1 hv8, if_pos hok]
                    exact HT.out.2.2.2.2.1 
                · have hok4 : okX x4 = true := by simp [okX, hC4.1, hC4.2.1]
                  have hp4 : x4.pos ≤ x4.s.length := hC4.2.2.2.2.2.1
                  have hcn := chunk_next hC4 hlt
                  have hlo4 : o4.length ≤ 1048576 := by have := hC4.2.2.2.2.1; omega
                  obtain ⟨xn, hxn⟩ : ∃ xn, nextF x4 = xn := ⟨_, rfl⟩
                  obtain ⟨cn, hcnb⟩ : ∃ cn, nextB x4 = cn := ⟨_, rfl⟩
                  have hsn : xn.s = s ∧ xn.sv = x4.sv := by rw [← hxn]; exact ⟨(next_s x4).1.trans hs4, (next_s x4).2⟩
                  rw [hxn, hcnb] at hcn
                  have HC := Lib.hid (And.intro h4 (And.intro hs4 (And.intro ho4 (And.intro hk4 (And.intro hle4 (And.intro hxn (And.intro hcnb (And.intro hsn hcn))))))))
                  clear h4 hs4 ho4 hk4 hC4 hle4 hxn hcnb hsn hcn
                  go_wp2_with (fail)
                  refine (okX_any b x4 _ HC.out.1).mono ?_
                  rintro e w' ⟨rfl, rfl⟩
                  rw [hok4]
                  go_wp2_with (fail)
                  refine (next_any b x4 _ HC.out.1 hp4 (by rw [HC.out.2.1]; exact hl)).mono ?_
                  rintro e w5 ⟨rfl, h5, k5⟩
                  rw [HC.out.2.2.2.2.2.1] at h5
                  rw [HC.out.2.2.2.2.2.2.1]
                  have ho5 : OwnB (b + 1) x4.sv o4 w5 := HC.out.2.2.1.kept1 k5 (by omega)
                  have H5 := Lib.hid (And.intro h5 (And.intro ho5 (HC.out.2.2.2.1.new1 k5 HB.out)))
                  clear h5 k5 ho5
                  go_wp2_with (fail)
                  refine (okX_any b xn w5 H5.out.1).mono ?_
                  rintro e w' ⟨rfl, rfl⟩
                  rcases HC.out.2.2.2.2.2.2.2.2 with ⟨hokn, hCn⟩ | ⟨hokn, hEn⟩
                  · rw [hokn]
                    have HN := Lib.hid hCn
                    clear hCn
                    obtain ⟨p5, cp5, hv5, hw5⟩ := H5.out.2.1
                    obtain ⟨d0, d1, d2, d3, d4⟩ := H5.out.1.cells
                    obtain ⟨f0, f1, f2, f3, f4⟩ := H5.out.1.free
                    rw [HC.out.2.2.2.2.2.2.2.1.2, hv5] at d2
                    have HW5 := Lib.hid (And.intro hw5 hv5)
                    have hB5 := Lib.hid (Nat.lt_of_lt_of_le (lt_of_block H5.out.1) (Nat.le_refl _))
                    clear hw5 hv5
                    have hob : ∀ q, (Value.slice p5 o4.length cp5).ownBlock = some q → b + 1 ≤ q ∧ q < w5.heap.size := OwnB.lt ⟨p5, cp5, rfl, HW5.out.1⟩
                    have HOB := Lib.hid hob
                    clear hob
                    go_wp2_with (at_builtin
                                 refine wpList_append_lies _ rfl (.tmp 92) (.tmp 94) _ rfl (b + 1) 5 i0 (.int .u8 0) 1 1 Tryz.underlying76 hi0 hz0 hz1 hz2 rfl (by decide) (.slice p5 o4.length cp5) o4.length (Lib.byteCells o4) rfl (own_kept HW5.out.1 ((Kept.refl [] w5).alloc _)) ⟨w5.heap.size, 0, none⟩ 1 1 (Lib.byteCells [cn]) rfl rfl (World.news_of_block (heap_new w5 _)) (B_one _) (by decide) (by unfold maxLen; omega) (by omega) (by have := hB5.out; simp; omega) _ rfl ?_
                                 intro g cap wa own1 gr1 hat1 hlt1
                                 have ha1 : XAt wa b xn := XAt.grown (w := w5.alloc (.cells #[B cn] 5)) (H5.out.1.kept ((Kept.refl [] w5).alloc _) (by simp)) gr1 (fun e => by have := (HOB.out b e).1; omega)
                                 have hka1 : Kept [] w wa := (H5.out.2.2.alloc _).grownN gr1 (fun k e => by have h1 := (HOB.out k e).1; have h2 := HB.out; omega)
                                 have hfa := ha1.free
                                 have HA1 := Lib.hid (And.intro own1 (And.intro ha1 hka1))
                                 obtain ⟨⟨e0, e1, e2, e3, e4⟩, ⟨e5, e6, e7, e8, e9⟩⟩ := And.intro hfa ha1.cells
                                 clear own1 gr1 ha1 hka1 hat1)
                    have h6 := XAt.set2 HA1.out.2.1 (.slice (some ⟨g, 0, none⟩) (o4.length + 1) cap)
                    have hk6 : Kept [b] wa (wa.setCell ⟨b, 2, none⟩ (.slice (some ⟨g, 0, none⟩) (o4.length + 1) cap)) := (Kept.refl [b] wa).setCell (.inl (by simp)) _
                    have ho6 : OwnB (b + 1) (.slice (some ⟨g, 0, none⟩) (o4.length + 1) cap) (o4 ++ [cn]) wa := OwnB.of HA1.out.1 (by simp) (by rw [Lib.byteCells_append])
                    go_roundw
                    case rel => exact ⟨{ xn with sv := .slice (some ⟨g, 0, none⟩) (o4.length + 1) cap }, o4 ++ [cn], i + 1, by go_num, by omega, h6, HC.out.2.2.2.2.2.2.2.1.1, ho6.kept1 hk6 (by omega), HA1.out.2.2.new1 hk6 HB.out, .inr ⟨HN.out, by have := HC.out.2.2.2.2.1; simp; omega⟩⟩
                    case measure => simp [intOf]; omega
                  · rw [hokn]
                    have HN := Lib.hid hEn
                    clear hEn
                    go_wp2_with (fail)
                    go_roundw
                    case rel => exact ⟨xn, o4, i + 1, by go_num, by omega, H5.out.1, HC.out.2.2.2.2.2.2.2.1.1, by rw [HC.out.2.2.2.2.2.2.2.1.2]; exact H5.out.2.1, H5.out.2.2, .inl ⟨HN.out, by have := HC.out.2.2.2.2.1; omega⟩⟩
                    case measure => simp [intOf]; omega
              · have HT := Lib.hid (And.intro h4 (And.intro hs4 (And.intro ho4 (And.intro hk4 (tail_end (s := s) (n := n) (L := s.length) (ol := out.length) (by rw [hs4]) (by omega) (by
                  rcases hc4 with h | ⟨h1, h2⟩
                  · exact .inl h
                  · have hin : n.toNat = i := by omega
                    exact .inr ⟨by rw [hin]; exact h1, by have := h1.2.2.1; omega⟩))))))
                clear h4 hs4 ho4 hk4 hc4
                go_wp2_with (fail)
                refine (next_gen b x4 _ HT.out.1 HT.out.2.2.2.2.2.1 (by rw [HT.out.2.1]; exact hl)).mono ?_
                rintro e w5 ⟨rfl, h5, k5⟩
                obtain ⟨c5, hc5⟩ : ∃ c, nextB x4 = c := ⟨_, rfl⟩
                rw [hc5]
                obtain ⟨q5, hq5⟩ : ∃ q, ((c5.toNat : Int) == 13) = q := ⟨_, rfl⟩
                have H5 := Lib.hid (And.intro h5 (And.intro k5 (And.intro hc5 hq5)))
                clear h5 k5 hc5
                go_wp2_with (fail)
                refine (must_any b (nextF x4) q5 180 w5 H5.out.1).mono ?_
                rintro e w6 ⟨rfl, h6, k6⟩
                have hby : mustF (nextF x4) q5 180 = byX x4 13 := by_of (by decide) H5.out.2.2.1 H5.out.2.2.2
                rw [hby] at h6
                have H6 := Lib.hid (And.intro h6 (H5.out.2.1.trans' k6))
                clear h6 k6 hby hq5 H5
                go_wp2_with (fail)
                refine (next_gen b (byX x4 13) w6 H6.out.1 HT.out.2.2.2.2.2.2.1 (by rw [by_s, HT.out.2.1]; exact hl)).mono ?_
                rintro e w7 ⟨rfl, h7, k7⟩
                obtain ⟨c7, hc7⟩ : ∃ c, nextB (byX x4 13) = c := ⟨_, rfl⟩
                rw [hc7]
                obtain ⟨q7, hq7⟩ : ∃ q, ((c7.toNat : Int) == 10) = q := ⟨_, rfl⟩
                have H7 := Lib.hid (And.intro h7 (And.intro (H6.out.2.trans' k7) (And.intro hc7 hq7)))
                clear h7 k7 hc7 H6
                go_wp2_with (fail)
                refine (must_any b (nextF (byX x4 13)) q7 180 w7 H7.out.1).mono ?_
                rintro e w8 ⟨rfl, h8, k8⟩
                have hby : mustF (nextF (byX x4 13)) q7 180 = byX (byX x4 13) 10 := by_of (by decide) H7.out.2.2.1 H7.out.2.2.2
                rw [hby] at h8
                have H8 := Lib.hid (And.intro h8 (H7.out.2.1.trans' k8))
                clear h8 k8 hby hq7 H7
                go_wp2_with (fail)
                go_roundw
                case rel => exact ⟨byX (byX x4 13) 10, o4, H8.out.1, by rw [by_s, by_s]; exact HT.out.2.1, by rw [by_v, by_v]; exact HT.out.2.2.1.kept1 H8.out.2 (by omega), HT.out.2.2.2.1.new1 H8.out.2 HB.out, HT.out.2.2.2.2.2.2.2⟩
                case measure =>
                  have hv8 : OwnB (b + 1) (byX (byX x4 13) 10).sv o4 w8 := by rw [by_v, by_v]; exact HT.out.2.2.1.kept1 H8.out.2 (by omega)
                  rw [mX_own HR.out.1 HR.out.2.2.1, mX_own H8.out.1 hv8, if_pos hok]
                  exact HT.out.2.2.2.2.1 
  · have hl' : (s.length : Int) ≤ 1000000 := by omega
    obtain ⟨m, hm, hm2⟩ : ∃ m : Nat, min sz (s.length : Int) = (m : Int) ∧ m ≤ s.length := ⟨(min sz (s.length : Int)).toNat, by omega, by omega⟩
    have HR := Lib.hid (run_sized s sz hsz0)
    rw [hm] at HR
    go_wp2_with (fail)
    exact bodyPost_ret (v := .tuple #[S (s.take m), I m, .bool ((m : Int) == sz), I 0]) (by simp [results, Tryz.results41, go_sem]) rfl ⟨s.take m, m, _, 0, rfl, HR.out, K1.out⟩
  · have hl' : ¬ (1048576 : Int) < (s.length : Int) := by omega
    have HR := Lib.hid (run_open s)
    rw [if_neg (by omega), if_neg (by omega), if_neg (by omega)] at HR
    go_wp2_with (fail)
    exact bodyPost_ret (v := .tuple #[S s, I s.length, .bool false, I 0]) (by simp [results, Tryz.results41, go_sem]) rfl ⟨s, s.length, false, 0, rfl, HR.out, K1.out⟩
end BD
end
end Go.Proofs.YtgdncdhalnijcaaGreatDoor
