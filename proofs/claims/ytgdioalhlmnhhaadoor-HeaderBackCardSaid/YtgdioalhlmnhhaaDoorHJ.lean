/- Walks and lemmas on the program of this seat, used by its statements; each theorem bears its own conditions. -/
import Derived.Test.YtgdioalhlmnhhaaDoorHI
import Derived.Handy
import Derived.OwnWalk
import Derived.Deep.AppendLies
namespace Go.Proofs.YtgdioalhlmnhhaaDoor
open Go.RowKit
set_option linter.unusedVariables false
set_option linter.unusedSimpArgs false
set_option maxHeartbeats 8000000
set_option maxRecDepth 100000
/-! ### A head in memory, its two rows the call's own -/
abbrev HdT : TypeId := 65
abbrev nilV : Value := .slice none 0 0
def OwnT (B : Nat) (w : World) (v : Value) (l : List (List UInt8)) : Prop := w.ownsRow B 9 1 v l.length (l.map S)
theorem OwnT.nil (B : Nat) (w : World) : OwnT B w nilV [] := ⟨rfl, .inl ⟨rfl, rfl⟩⟩
theorem OwnT.keptS {B : Nat} {w w' : World} {v : Value} {l : List (List UInt8)} {T : List Nat} (h : OwnT B w v l) (k : Kept T w w') (hs : ∀ x ∈ T, x < B) : OwnT B w' v l := by
  refine ⟨h.1, ?_⟩
  rcases h.2 with h0 | ⟨g, cap, cur, e, hb, hg, hr⟩
  · exact .inl h0
  · exact .inr ⟨g, cap, cur, e, hb, k.at hg (fun hm => by have := hs g hm; omega), hr⟩
theorem OwnT.kept {B : Nat} {w w' : World} {v : Value} {l : List (List UInt8)} (h : OwnT B w v l) (k : Kept [] w w') : OwnT B w' v l := h.keptS k (by simp)
theorem OwnT.mono {B B' : Nat} {w : World} {v : Value} {l : List (List UInt8)} (h : OwnT B w v l) (hb : B' ≤ B) : OwnT B' w v l := by
  refine ⟨h.1, ?_⟩
  rcases h.2 with h0 | ⟨g, cap, cur, e, hg, hr⟩
  · exact .inl h0
  · exact .inr ⟨g, cap, cur, e, Nat.le_trans hb hg, hr⟩
theorem OwnT.lt {B : Nat} {w : World} {v : Value} {l : List (List UInt8)} (h : OwnT B w v l) : ∀ q, v.ownBlock = some q → B ≤ q ∧ q < w.heap.size := by
  intro q hq
  rcases h.2 with ⟨rfl, hn⟩ | ⟨g, cap, cur, rfl, hb, hg, _⟩
  · cases hq
  · cases hq; exact ⟨hb, lt_of_block hg⟩
theorem OwnT.grown {B : Nat} {w w' : World} {v : Value} {l : List (List UInt8)} {row : Option Nat} (h : OwnT B w v l) (g : w.grownBy w' row) (hr : ∀ q, v.ownBlock = some q → row ≠ some q) : OwnT B w' v l := by
  refine ⟨h.1, ?_⟩
  have hlt := h.lt
  rcases h.2 with h0 | ⟨q, cap, cur, e, hb, hg, hx⟩
  · exact .inl h0
  · have hq : v.ownBlock = some q := by rw [e]; rfl
    exact .inr ⟨q, cap, cur, e, hb, (g.block q (hlt q hq).2 (fun e2 => hr q hq e2.symm)).trans hg, hx⟩
theorem OwnT.texts {B : Nat} {w : World} {v : Value} {l : List (List UInt8)} (h : OwnT B w v l) (hl : l.length ≤ 9223372036854775807) : TextsAt w v l := by
  rcases h.2 with ⟨rfl, hn⟩ | ⟨g, cap, cur, rfl, hb, hg, hnc, _, hsz, htake⟩
  · have : l = [] := List.eq_nil_of_length_eq_zero hn
    subst this
    exact ⟨none, 0, rfl, by simp, fun h => absurd rfl h⟩
  · refine ⟨_, cap, rfl, hl, fun _ => ⟨g, 0, rfl, fun i hi => ?_⟩⟩
    rw [cell_at hg, Nat.zero_add]
    have h1 : (cur.toList.take (l.length * 1))[i]? = some (S (l.getD i [])) := by rw [htake]; simp [List.getD, hi]
    rw [List.getElem?_take_of_lt (by omega)] at h1
    rw [← Array.getElem?_toList]; exact h1
structure PA (B : Nat) (w : World) (b : Nat) (cs : Array Value) (v1 : Value) (ns : List (List UInt8)) (v2 : Value) (vs : List (List UInt8)) : Prop where
  blk : Blk w b cs HdT
  o1 : OwnT B w v1 ns
  o2 : OwnT B w v2 vs
  ne : ∀ g, v1.ownBlock = some g → v2.ownBlock ≠ some g
  lt : b < B
section
variable {B b : Nat} {w : World} {cs : Array Value} {v1 v2 : Value} {ns vs : List (List UInt8)}
theorem PA.kept {w' : World} (h : PA B w b cs v1 ns v2 vs) (k : Kept [] w w') : PA B w' b cs v1 ns v2 vs := ⟨h.blk.kept k (by simp), h.o1.kept k, h.o2.kept k, h.ne, h.lt⟩
theorem Kept.set1 (w : World) (p : Addr) (v : Value) : Kept [p.block] w (w.setCell p v) := (Kept.refl [p.block] w).setCell (.inl (by simp)) v
theorem PA.other {c o : Nat} {u : Value} (h : PA B w b cs v1 ns v2 vs) (hc : c ≠ b) (hB : c < B) : PA B (w.setCell ⟨c, o, none⟩ u) b cs v1 ns v2 vs :=
  ⟨h.blk.other c o u hc, h.o1.keptS (Kept.set1 w ⟨c, o, none⟩ u) (by simp; exact hB), h.o2.keptS (Kept.set1 w ⟨c, o, none⟩ u) (by simp; exact hB), h.ne, h.lt⟩
theorem PA.set (h : PA B w b cs v1 ns v2 vs) (o : Nat) (u : Value) : PA B (w.setCell ⟨b, o, none⟩ u) b (cs.setIfInBounds o u) v1 ns v2 vs :=
  ⟨h.blk.set o u, h.o1.keptS (Kept.set1 w ⟨b, o, none⟩ u) (by simp; exact h.lt), h.o2.keptS (Kept.set1 w ⟨b, o, none⟩ u) (by simp; exact h.lt), h.ne, h.lt⟩
theorem Blk.grown {t : TypeId} {w' : World} {row : Option Nat} (h : Blk w b cs t) (g : w.grownBy w' row) (hr : row ≠ some b) : Blk w' b cs t :=
  (g.block b (lt_of_block h) (fun e => hr e.symm)).trans h
theorem PA.app1 {wa : World} {x : List UInt8} {g cap : Nat} (h : PA B w b cs v1 ns v2 vs) (own : wa.ownsRow B 9 1 (.slice (some ⟨g, 0, none⟩) (ns.length + 1) cap) (ns.length + 1) (ns.map S ++ [S x])) (gr : w.grownBy wa v1.ownBlock)
    (hat : v1.ownBlock = some g ∨ g = w.heap.size) : PA B wa b cs (.slice (some ⟨g, 0, none⟩) (ns.length + 1) cap) (ns ++ [x]) v2 vs := by
  refine ⟨h.blk.grown gr (fun e => by have := (h.o1.lt b e).1; have := h.lt; omega), by unfold OwnT; simpa using own, h.o2.grown gr (fun q hq e => h.ne q e hq), ?_, h.lt⟩
  intro q hq e
  have hq' : g = q := by injection hq
  subst hq'
  rcases hat with hat | hat
  · exact h.ne g hat e
  · have := (h.o2.lt g e).2; omega
theorem PA.app2 {wa : World} {x : List UInt8} {g cap : Nat} (h : PA B w b cs v1 ns v2 vs) (own : wa.ownsRow B 9 1 (.slice (some ⟨g, 0, none⟩) (vs.length + 1) cap) (vs.length + 1) (vs.map S ++ [S x])) (gr : w.grownBy wa v2.ownBlock)
    (hat : v2.ownBlock = some g ∨ g = w.heap.size) : PA B wa b cs v1 ns (.slice (some ⟨g, 0, none⟩) (vs.length + 1) cap) (vs ++ [x]) := by
  refine ⟨h.blk.grown gr (fun e => by have := (h.o2.lt b e).1; have := h.lt; omega), h.o1.grown gr (fun q hq e => h.ne q hq e), by unfold OwnT; simpa using own, ?_, h.lt⟩
  intro q hq e
  have hq' : g = q := by injection e
  subst hq'
  rcases hat with hat | hat
  · exact h.ne g hq hat
  · have := (h.o1.lt g hq).2; omega
theorem Kept.grown {a w w' : World} {row : Option Nat} (h : Kept [] a w) (g : w.grownBy w' row) (hr : ∀ k, row = some k → a.heap.size ≤ k) : Kept [] a w' :=
  ⟨g.os.trans h.os, g.tape.trans h.tape, g.output.trans h.output, Nat.le_trans h.size g.size, fun k hk hn =>
    (g.block k (by have := h.size; omega) (fun e => by have := hr k e.symm; omega)).trans (h.block k hk hn)⟩
theorem PA.cells {x y z : Value} (h : PA B w b #[x, y, z] v1 ns v2 vs) : w.cell? ⟨b, 0, none⟩ = some x ∧ w.cell? ⟨b, 1, none⟩ = some y ∧ w.cell? ⟨b, 2, none⟩ = some z := cells3 h.blk
theorem PA.free (h : PA B w b cs v1 ns v2 vs) (i : Nat) : w.frozen? ⟨b, i, none⟩ = false := free_at h.blk i
theorem PA.hlt (h : PA B w b cs v1 ns v2 vs) : b < w.heap.size := lt_of_block h.blk
end
theorem Blk.free {w : World} {b : Nat} {cs : Array Value} {t : TypeId} (h : Blk w b cs t) (i : Nat) : w.frozen? ⟨b, i, none⟩ = false := free_at h i
theorem str_info : (Tryd.prog.info? 9).map (fun i => (i.zero, i.size, i.bytes)) = some (some (.string ⟨#[]⟩), 1, 16) := by kernel_rfl
theorem S_one (ss : List (List UInt8)) : ∀ u ∈ ss.map S, u.oneCell' = true := by
  intro u hu
  obtain ⟨x, _, rfl⟩ := List.mem_map.1 hu
  rfl
def ParsePost (w : World) (r : HR) (e : Ending) (w' : World) : Prop :=
  ∃ v1 v2, e = .returned (.tuple #[.agg #[I r.head.st, v1, v2], I r.many, I r.err]) ∧ OwnT w.heap.size w' v1 r.head.ns ∧ OwnT w.heap.size w' v2 r.head.vs ∧ Kept [] w w'
theorem endZ_none {s : List UInt8} {n : Nat} (h : crlf (s.drop n) = none) : endZ s n = -1 := by unfold endZ; rw [h]
theorem endZ_some {s : List UInt8} {n i : Nat} (h : crlf (s.drop n) = some i) : endZ s n = ((n + i : Nat) : Int) := by unfold endZ; rw [h]
theorem lenCR_drop (s : List UInt8) (n : Nat) (hn : n ≤ s.length) : lenCR (s.drop n) = if n < s.length ∧ byteAt s (s.length - 1) = 13 then s.length - n - 1 else s.length - n := by
  unfold lenCR
  rw [List.length_drop, byteAt_drop]
  by_cases h : n < s.length
  · have e : n + (s.length - n - 1) = s.length - 1 := by omega
    rw [e]
    by_cases h2 : byteAt s (s.length - 1) = 13
    · rw [if_pos ⟨by omega, h2⟩, if_pos ⟨h, h2⟩]
    · rw [if_neg (fun x => h2 x.2), if_neg (fun x => h2 x.2)]
  · rw [if_neg (fun x => h (by omega)), if_neg (fun x => h x.1)]
theorem OwnT.form {B : Nat} {w : World} {v : Value} {l : List (List UInt8)} (h : OwnT B w v l) : ∃ p c, v = .slice p l.length c := by
  rcases h.2 with ⟨rfl, hn⟩ | ⟨g, cap, cur, rfl, _⟩
  · exact ⟨none, 0, by rw [hn]⟩
  · exact ⟨_, _, rfl⟩
end Go.Proofs.YtgdioalhlmnhhaaDoor
