/- Walks and lemmas on the program of this seat, used by its statements; each theorem bears its own conditions. -/
import Derived.Test.YtlchdokpkaikhaaDoorGen
import Derived.Test.YtlchdokpkaikhaaDoorShelf
import Derived.Test.YtlchdokpkaikhaaDoorPC
import Derived.OwnWalk
namespace Go.Proofs.YtlchdokpkaikhaaDoor
open Go.RowKit
set_option linter.unusedVariables false
set_option linter.unusedSimpArgs false
/-! ### Lists of texts; strings.Join, Split, CutPrefix, TrimSuffix -/
theorem Kept.cellOf {w w' : World} (h : Kept [] w w') {p : Addr} {v : Value} (hc : w.cell? p = some v) : w'.cell? p = some v := by
  have hb : p.block < w.heap.size := by
    rcases Nat.lt_or_ge p.block w.heap.size with h1 | h1
    · exact h1
    · unfold World.cell? at hc; rw [Array.getElem?_eq_none h1] at hc; cases hc
  rw [h.cell hb (by simp), hc]
theorem Kept.of_below0 {w w' : World} (h : Below w.heap.size w w') : Kept [] w w' := Kept.of_below h (Nat.le_refl _)
theorem iter_at (w : World) (o : Obj) (k : Nat) (h : k = w.heap.size) : (w.alloc o).heap[k]? = some o := by subst h; exact heap_new w o
theorem SJ (l : List UInt8) : (⟨l.toArray⟩ : ByteArray).data.toList = l := rfl
def StrsAt (w : World) (v : Value) (ss : List (List UInt8)) : Prop :=
  ∃ (p : Option Addr) (cap : Nat), v = .slice p ss.length cap ∧ ss.length ≤ cap ∧ ss.length ≤ 140737488355328 ∧ (p = none → cap = 0) ∧ (ss ≠ [] → ∃ b off, p = some ⟨b, off, none⟩ ∧ ∀ (i : Nat), i < ss.length → w.cell? ⟨b, off + i, none⟩ = some (S (ss.getD i [])))
theorem StrsAt.kept {w w' : World} {v : Value} {ss : List (List UInt8)} (h : StrsAt w v ss) (k : Kept [] w w') : StrsAt w' v ss := by
  obtain ⟨p, cap, hv, hl, hl2, hnn, hc⟩ := h
  refine ⟨p, cap, hv, hl, hl2, hnn, fun hne => ?_⟩
  obtain ⟨b, off, hp, hcell⟩ := hc hne
  exact ⟨b, off, hp, fun i hi => k.cellOf (hcell i hi)⟩
theorem StrsAt.nil (w : World) : StrsAt w (.slice none 0 0) [] := ⟨none, 0, rfl, by simp, by simp, fun _ => rfl, fun h => absurd rfl h⟩
theorem cells_map (w : World) (b : Nat) (ss : List (List UInt8)) (h : w.heap[b]? = some (.cells (ss.map S).toArray 9 (0, 0))) (i : Nat) (hi : i < ss.length) : w.cell? ⟨b, 0 + i, none⟩ = some (S (ss.getD i [])) := by
  rw [cell_at h]; simp [List.getD, hi]
theorem StrsAt.new {w : World} {b cap : Nat} {ss : List (List UInt8)} (h : w.heap[b]? = some (.cells (ss.map S).toArray 9 (0, 0))) (hc : ss.length ≤ cap) (hc2 : ss.length ≤ 140737488355328) : StrsAt w (.slice (some ⟨b, 0, none⟩) ss.length cap) ss :=
  ⟨_, _, rfl, hc, hc2, (fun h => by cases h), fun _ => ⟨b, 0, rfl, fun i hi => cells_map w b ss h i hi⟩⟩
theorem getD_eq {α : Type} (l : List α) (i : Nat) (d : α) (h : i < l.length) : l.getD i d = l[i] := by simp [List.getD, h]
theorem take_getD {α : Type} (l : List α) (i : Nat) (d : α) (h : i < l.length) : l.take (i + 1) = l.take i ++ [l.getD i d] := by
  rw [List.take_succ_eq_append_getElem h, getD_eq l i d h]
theorem ne_of_take {α : Type} (d : α) (a b : List α) (i : Nat) (ha : i < a.length) (hb : i < b.length) (h : a.getD i d ≠ b.getD i d) : a ≠ b := by intro e; subst e; exact h rfl
theorem Kept.grown {a w w' : World} {row : Option Nat} (h : Kept [] a w) (g : w.grownBy w' row) (hr : ∀ k, row = some k → a.heap.size ≤ k) : Kept [] a w' :=
  ⟨g.os.trans h.os, g.tape.trans h.tape, g.output.trans h.output, Nat.le_trans h.size g.size, fun k hk hn =>
    (g.block k (by have := h.size; omega) (fun e => by have := hr k e.symm; omega)).trans (h.block k hk hn)⟩
theorem S_one (ss : List (List UInt8)) : ∀ u ∈ ss.map S, u.oneCell' = true := by
  intro u hu
  obtain ⟨x, _, rfl⟩ := List.mem_map.1 hu
  rfl
theorem own_strs {w : World} {base : Nat} {v : Value} {ss : List (List UInt8)} (h : w.ownsRow base 9 1 v ss.length (ss.map S)) (hl : ss.length ≤ 140737488355328) : StrsAt w v ss := by
  rcases h.2 with ⟨rfl, hn⟩ | ⟨g, cap, cur, rfl, hb, hg, hnc, _, hsz, htake⟩
  · have : ss = [] := List.eq_nil_of_length_eq_zero hn
    subst this; exact StrsAt.nil w
  · refine ⟨_, cap, rfl, hnc, hl, (fun h => by cases h), fun _ => ⟨g, 0, rfl, fun i hi => ?_⟩⟩
    rw [cell_at hg, Nat.zero_add]
    have h1 : (cur.toList.take (ss.length * 1))[i]? = some (S (ss.getD i [])) := by rw [htake]; simp [List.getD, hi]
    rw [List.getElem?_take_of_lt (by omega)] at h1
    rw [← Array.getElem?_toList]; exact h1
theorem own_empty (w : World) (t : TypeId) : (w.alloc (.cells #[] t)).ownsRow w.heap.size t 1 (.slice (some ⟨w.heap.size, 0, none⟩) 0 0) 0 [] :=
  ⟨rfl, .inr ⟨w.heap.size, 0, #[], rfl, Nat.le_refl _, heap_new w _, Nat.le_refl _, Nat.zero_le _, rfl, rfl⟩⟩
theorem ownBlock_slice (g n c : Nat) : (Value.slice (some ⟨g, 0, none⟩) n c).ownBlock = some g := rfl
theorem str_info : (Tryd.prog.info? 9).map (fun i => (i.zero, i.size, i.bytes)) = some (some (.string ⟨#[]⟩), 1, 16) := by kernel_rfl
theorem join_many (sep : List UInt8) (v : Value) (ns : List (List UInt8)) (w : World) (h : StrsAt w v ns) (hlen : (sep.intercalate ns).length ≤ 140737488355328) :
    Calls Tryd.prog 24 #[v, S sep] w fun e w' => e = .returned (S (sep.intercalate ns)) ∧ Kept [] w w' := by
  obtain ⟨p, cap, rfl, h1, h2, _, h3⟩ := h
  by_cases h0 : ns = []
  · subst h0
    exact (Tryd.strings_Join_none p cap ⟨sep.toArray⟩ w).mono fun e w' ⟨he, hw⟩ => ⟨he, by rw [hw]; exact Kept.refl _ _⟩
  · obtain ⟨b, off, rfl, hc⟩ := h3 h0
    have hb : b < w.heap.size := World.block_lt_of_cell? w _ (hc 0 (List.length_pos_iff.2 h0))
    have e1 : ns.length = (ns.map fun l => (⟨l.toArray⟩ : ByteArray)).length := by simp
    have e2 : (ns.map fun l => (⟨l.toArray⟩ : ByteArray)).map (·.data.toList) = ns := by
      rw [List.map_map]; conv => rhs; rw [← List.map_id ns]
      apply List.map_congr_left; intro x _; rfl
    have := Tryd.strings_Join b off cap (ns.map fun l => (⟨l.toArray⟩ : ByteArray)) ⟨sep.toArray⟩ w (fun j x hx => by
      rw [List.getElem?_map] at hx
      have hj : j < ns.length := by
        rcases Nat.lt_or_ge j ns.length with h | h
        · exact h
        · rw [List.getElem?_eq_none h] at hx; cases hx
      rw [hc j hj, getD_eq _ _ _ hj]
      rw [List.getElem?_eq_getElem hj] at hx
      cases hx; rfl) hb (by rw [← e1]; omega) (by rw [← e1]; exact h1) (by rw [e2]; exact hlen)
    rw [e2, ← e1] at this
    exact this.mono fun e w' ⟨he, hw⟩ => ⟨he, Kept.of_below0 hw⟩
theorem pieces_of_split (c : UInt8) (l : List UInt8) : (Lib.splitB ⟨#[c]⟩ 0 (Lib.countB ⟨l.toArray⟩ ⟨#[c]⟩) ⟨l.toArray⟩).map Value.string = (WX.pieces c l).map S := by
  have h := Lib.splitB_data ⟨#[c]⟩ 0 (Lib.countB ⟨l.toArray⟩ ⟨#[c]⟩) ⟨l.toArray⟩
  have h2 : Lib.splitK [c] 0 (Lib.count l [c]) l = WX.pieces c l := WX.splitK_pieces c l
  have h3 : (Lib.splitB ⟨#[c]⟩ 0 (Lib.countB ⟨l.toArray⟩ ⟨#[c]⟩) ⟨l.toArray⟩).map (·.data.toList) = WX.pieces c l := by rw [h]; exact h2
  rw [← h3, List.map_map]
  apply List.map_congr_left
  intro x _
  show Value.string x = Value.string ⟨x.data.toList.toArray⟩
  rfl
theorem pieces_count (c : UInt8) (l : List UInt8) : Lib.countB ⟨l.toArray⟩ ⟨#[c]⟩ + 1 = (WX.pieces c l).length := by
  have h1 := Lib.splitB_all ⟨#[c]⟩ (by simp [ByteArray.size]) 0 _ ⟨l.toArray⟩ rfl
  have h2 := congrArg List.length (pieces_of_split c l)
  rw [List.length_map, List.length_map] at h2
  rw [← h2]; exact h1.symm
theorem split_any (c : UInt8) (l : List UInt8) (w : World) (hl : l.length < 4294967281) (hT : ∃ m : Int, w.cell? ⟨3, 0, none⟩ = some (I m)) :
    Calls Tryd.prog 27 #[S l, S [c]] w fun e w' => e = .returned (.slice (some ⟨w.heap.size, 0, none⟩) (WX.pieces c l).length (WX.pieces c l).length) ∧ w.alloc (.cells ((WX.pieces c l).map S).toArray 9) = w' := by
  obtain ⟨m, hm⟩ := hT
  refine (Tryd.strings_Split ⟨l.toArray⟩ ⟨#[c]⟩ m w (by simpa [ByteArray.size] using hl) hm (by simp [ByteArray.size])).mono fun e w' ⟨h1, h2⟩ => ?_
  rw [pieces_count, ] at h1
  rw [pieces_of_split] at h2
  exact ⟨h1, h2.symm⟩
theorem pieces_len (c : UInt8) (l : List UInt8) : (WX.pieces c l).length ≤ l.length + 1 := by
  induction l with
  | nil => simp [WX.pieces]
  | cons b l ih =>
    unfold WX.pieces
    split
    · simp; omega
    · split <;> (rename_i h; rw [h] at ih; simp at ih ⊢; try omega)
theorem pieces_mem (c : UInt8) (l : List UInt8) : ∀ p ∈ WX.pieces c l, p.length ≤ l.length := by
  induction l with
  | nil => intro p hp; simp [WX.pieces] at hp; subst hp; simp
  | cons b l ih =>
    intro p hp
    unfold WX.pieces at hp
    split at hp
    · rw [List.mem_cons] at hp
      rcases hp with rfl | hp
      · simp
      · have := ih p hp; simp; omega
    · split at hp
      · rename_i q qs h
        rw [h] at ih
        rw [List.mem_cons] at hp
        rcases hp with rfl | hp
        · have := ih q (by simp); simp; omega
        · have := ih p (by simp [hp]); simp; omega
      · rename_i h; exact absurd h (WX.pieces_ne c l)
theorem cutprefix_any (p l : List UInt8) (w : World) :
    Calls Tryd.prog 26 #[S l, S p] w fun e w' => e = .returned (.tuple #[S (Lib.trimPrefix l p), .bool (Lib.hasPrefix l p)]) ∧ w = w' :=
  (Tryd.strings_CutPrefix ⟨l.toArray⟩ ⟨p.toArray⟩ w).mono fun e w' ⟨he, hw⟩ => ⟨by rw [he], hw.symm⟩
theorem trimsuffix_any (p l : List UInt8) (w : World) (hl : l.length ≤ 9223372036854775807) :
    Calls Tryd.prog 28 #[S l, S p] w fun e w' => e = .returned (S (Lib.trimSuffix l p)) ∧ w = w' :=
  (Tryd.strings_TrimSuffix ⟨l.toArray⟩ ⟨p.toArray⟩ w (by simpa [ByteArray.size] using hl)).mono fun e w' ⟨he, hw⟩ => ⟨by rw [he], hw.symm⟩
theorem own_kept {w w' : World} {base : Nat} {e : TypeId} {size : Nat} {v : Value} {n : Nat} {xs : List Value} (h : w.ownsRow base e size v n xs) (k : Kept [] w w') : w'.ownsRow base e size v n xs :=
  ⟨h.1, h.2.imp id fun ⟨g, cap, cur, hv, hb, hg, r⟩ => ⟨g, cap, cur, hv, hb, k.at hg (by simp), r⟩⟩
end Go.Proofs.YtlchdokpkaikhaaDoor
