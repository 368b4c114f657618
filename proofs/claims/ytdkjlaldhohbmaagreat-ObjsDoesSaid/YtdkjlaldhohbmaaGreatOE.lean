/- Walks and lemmas on the program of this seat, used by its statements; each theorem bears its own conditions. -/
import Derived.Test.YtdkjlaldhohbmaaGreatOD
import Derived.Handy
import Derived.OwnWalk
import Derived.Deep.AppendLies
import Derived.IntWalk
import Derived.Deep.CutRange
import Derived.Deep.RegionHeld3
namespace Go.Proofs.YtdkjlaldhohbmaaGreat
open Go.RowKit
set_option linter.unusedVariables false
set_option linter.unusedSimpArgs false
set_option maxHeartbeats 8000000
set_option maxRecDepth 100000
/-! ### The log in memory -/
abbrev Sg := Nat × Nat
def segCells (l : List Sg) : List Value := l.flatMap fun s => [I s.1, I s.2]
theorem segCells_len (l : List Sg) : (segCells l).length = l.length * 2 := by
  induction l with
  | nil => rfl
  | cons s l ih => simp only [segCells, List.flatMap_cons, List.length_append, List.length_cons, List.length_nil] at ih ⊢; omega
structure LgAt (w : World) (lb pb fb bb cb fs n : Nat) (v : Value) (segs : List Sg) (f : Fl) (dead : Bool) : Prop where
  blk : w.heap[lb]? = some (.cells #[Ptr pb, v, .bool dead] 116 (0, 0))
  own : w.ownsRow (lb + 1) 119 2 v segs.length (segCells segs)
  pt : PtAt w pb fb bb cb fs n f
  n1 : pb < lb
  n2 : fb < lb
  n3 : bb < lb
  n4 : cb < lb
/-- The blocks that the log's calls may turn. -/
def LgT (lb fb bb cb : Nat) (v : Value) : List Nat := [lb, fb, bb, cb] ++ v.ownBlock.toList
def Fresh (w : World) (v v' : Value) : Prop := ∀ q, v'.ownBlock = some q → v.ownBlock = some q ∨ w.heap.size ≤ q
def LgPost (r : Value) (lb pb fb bb cb fs n : Nat) (v : Value) (w : World) (segs : List Sg) (f : Fl) (dead : Bool) (e : Ending) (w' : World) : Prop :=
  e = .returned r ∧ ∃ v', Fresh w v v' ∧ LgAt w' lb pb fb bb cb fs n v' segs f dead ∧ Kept (LgT lb fb bb cb v) w w'
section
variable {w : World} {lb pb fb bb cb fs n : Nat} {v : Value} {segs : List Sg} {f : Fl} {dead : Bool}
theorem LgAt.lt (h : LgAt w lb pb fb bb cb fs n v segs f dead) : lb < w.heap.size := lt_of_block h.blk
theorem LgAt.cells (h : LgAt w lb pb fb bb cb fs n v segs f dead) : w.cell? ⟨lb, 0, none⟩ = some (Ptr pb) ∧ w.cell? ⟨lb, 1, none⟩ = some v ∧ w.cell? ⟨lb, 2, none⟩ = some (.bool dead) := by
  refine ⟨?_, ?_, ?_⟩ <;> (rw [cell_at h.blk]; rfl)
theorem LgAt.free (h : LgAt w lb pb fb bb cb fs n v segs f dead) (i : Nat) : w.frozen? ⟨lb, i, none⟩ = false := free_at h.blk i
theorem own_kept {w' : World} {B : Nat} {t : TypeId} {size : Nat} {v : Value} {n : Nat} {xs : List Value} {T : List Nat} (h : w.ownsRow B t size v n xs) (k : Kept T w w') (hn : ∀ q, v.ownBlock = some q → q ∉ T) : w'.ownsRow B t size v n xs := by
  refine ⟨h.1, ?_⟩
  rcases h.2 with h0 | ⟨g, cap, cur, e, hb, hg, hr⟩
  · exact .inl h0
  · exact .inr ⟨g, cap, cur, e, hb, k.at hg (hn g (by rw [e]; rfl)), hr⟩
theorem own_lt {B : Nat} {t : TypeId} {size : Nat} {v : Value} {n : Nat} {xs : List Value} (h : w.ownsRow B t size v n xs) : ∀ q, v.ownBlock = some q → B ≤ q ∧ q < w.heap.size := by
  intro q hq
  rcases h.2 with ⟨rfl, _⟩ | ⟨g, cap, cur, rfl, hb, hg, _⟩
  · cases hq
  · have : g = q := by simpa [Value.ownBlock] using hq
    subst this
    exact ⟨hb, lt_of_block hg⟩
theorem LgAt.kept {w' : World} {T : List Nat} (h : LgAt w lb pb fb bb cb fs n v segs f dead) (k : Kept T w w') (h0 : lb ∉ T) (h1 : pb ∉ T) (h2 : fb ∉ T) (h3 : bb ∉ T) (h4 : cb ∉ T) (h5 : ∀ q, v.ownBlock = some q → q ∉ T) : LgAt w' lb pb fb bb cb fs n v segs f dead :=
  ⟨k.at h.blk h0, own_kept h.own k h5, h.pt.kept k h1 h2 h3 h4, h.n1, h.n2, h.n3, h.n4⟩
theorem LgAt.same {w' : World} (h : LgAt w lb pb fb bb cb fs n v segs f dead) (k : Kept [] w w') : LgAt w' lb pb fb bb cb fs n v segs f dead := h.kept k (by simp) (by simp) (by simp) (by simp) (by simp) (by simp)
theorem LgAt.drew (h : LgAt w lb pb fb bb cb fs n v segs f dead) : LgAt w.drew lb pb fb bb cb fs n v segs f dead := h.same ((Kept.refl _ _).drew)
/-- The flash has turned. -/
theorem LgAt.turned {w' : World} {f' : Fl} (h : LgAt w lb pb fb bb cb fs n v segs f dead) (k : Kept [fb, bb, cb] w w') (hp : PtAt w' pb fb bb cb fs n f') : LgAt w' lb pb fb bb cb fs n v segs f' dead :=
  ⟨k.at h.blk (by have := h.n2; have := h.n3; have := h.n4; simp; omega), own_kept h.own k (fun q hq hm => by
    have := (own_lt h.own q hq).1
    have := h.n2
    have := h.n3
    have := h.n4
    simp at hm; omega), hp, h.n1, h.n2, h.n3, h.n4⟩
theorem LgAt.setDead (h : LgAt w lb pb fb bb cb fs n v segs f dead) (d : Bool) : LgAt (w.setCell ⟨lb, 2, none⟩ (.bool d)) lb pb fb bb cb fs n v segs f d := by
  have k : Kept [lb] w (w.setCell ⟨lb, 2, none⟩ (.bool d)) := (Kept.refl _ _).setCell (.inl (by simp)) _
  refine ⟨heap_setCell_at h.blk 2 _, own_kept h.own k (fun q hq hm => ?_), h.pt.kept k (by have := h.n1; simp; omega) (by have := h.n2; simp; omega) (by have := h.n3; simp; omega) (by have := h.n4; simp; omega), h.n1, h.n2, h.n3, h.n4⟩
  have := (own_lt h.own q hq).1
  simp at hm; omega
theorem LgT.sub3 {w' : World} (k : Kept [fb, bb, cb] w w') : Kept (LgT lb fb bb cb v) w w' := k.mono (by intro x hx; simp [LgT] at hx ⊢; omega)
theorem LgT.sub1 {w' : World} (k : Kept [lb] w w') : Kept (LgT lb fb bb cb v) w w' := k.mono (by intro x hx; simp [LgT] at hx ⊢; omega)
theorem LgT.sub0 {w' : World} (k : Kept [] w w') : Kept (LgT lb fb bb cb v) w w' := k.mono (by simp)
theorem Fresh.refl (w : World) (v : Value) : Fresh w v v := fun _ h => .inl h
end
theorem lblocks_any (w : World) (lb pb fb bb cb fs n : Nat) (v : Value) (segs : List Sg) (f : Fl) (dead : Bool) (h : LgAt w lb pb fb bb cb fs n v segs f dead) : Calls Tryz.prog 77 #[Ptr lb] w fun e w' => e = .returned (I n) ∧ w' = w := by
  obtain ⟨c0, c1, c2⟩ := h.cells
  have HS := Lib.hid (size_any w pb fb bb cb fs n f h.pt)
  have hb := h.pt.bound.1
  have hd : ((n * 512 : Nat) : Int) / 512 = n := by omega
  have hb2 : ((n * 512 : Nat) : Int) ≤ 131072 := by omega
  have hb3 : (0 : Int) ≤ ((n * 512 : Nat) : Int) := by omega
  obtain ⟨N, hN⟩ : ∃ N : Nat, n * 512 = N := ⟨_, rfl⟩
  rw [hN] at HS hd hb2 hb3
  clear h hb hN
  go_enter Tryz.func77, Tryz.ntmps77
  go_wp2_with (fail)
  refine HS.out.mono ?_
  rintro e w1 ⟨rfl, rfl⟩
  go_wp2_with (fail)
  go_ret
  exact ⟨rfl, rfl⟩
theorem ltold_any (w : World) (lb pb fb bb cb fs n : Nat) (v : Value) (segs : List Sg) (f : Fl) (dead : Bool) (h : LgAt w lb pb fb bb cb fs n v segs f dead) (k : Int) :
    Calls Tryz.prog 104 #[Ptr lb, I k] w fun e w' => e = .returned (I k) ∧ LgAt w' lb pb fb bb cb fs n v segs f (dead || k == 2) ∧ Kept [lb] w w' := by
  obtain ⟨c0, c1, c2⟩ := h.cells
  have hf := h.free
  have H := Lib.hid h
  clear h
  go_enter Tryz.func104, Tryz.ntmps104
  cases dead with
  | true =>
    go_wp2_with (fail)
    go_ret
    exact ⟨rfl, H.out.setDead true, (Kept.refl _ _).setCell (.inl (by simp)) _⟩
  | false =>
    go_wp2_with (fail)
    go_ret
    exact ⟨rfl, H.out.setDead (k == 2), (Kept.refl _ _).setCell (.inl (by simp)) _⟩
def blockOf (bs : List UInt8) (k : Nat) : List UInt8 := (bs.drop (512 * k)).take 512
/-- A block that is clean is left as it is. -/
theorem lclean_any (w : World) (lb pb fb bb cb fs n : Nat) (v : Value) (segs : List Sg) (f : Fl) (h : LgAt w lb pb fb bb cb fs n v segs f false) (hd : f.dead = false) (k : Nat) (hk : k < n) (hc : allB (blockOf f.bs (fs + k)) = true) :
    Calls Tryz.prog 97 #[Ptr lb, I k] w fun e w' => e = .returned (I 0) ∧ LgAt w' lb pb fb bb cb fs n v segs f false ∧ Kept [lb] w w' := by
  obtain ⟨c0, c1, c2⟩ := h.cells
  have hb := h.pt.bound.1
  have hc1 := clean_any w pb fb bb cb fs n f h.pt hd (k * 512) 512 (by omega) (by omega)
  rw [show ((512 : Nat) : Int) = 512 from rfl] at hc1
  have HC := Lib.hid hc1
  have he : (f.bs.drop (512 * fs + k * 512)).take 512 = blockOf f.bs (fs + k) := by unfold blockOf; congr 2; omega
  rw [he, hc] at HC
  have HT := Lib.hid (ltold_any w lb pb fb bb cb fs n v segs f false h 0)
  have hkI : (k : Int) ≤ 256 := by omega
  have hkm : (k : Int) * 512 = (k * 512 : Nat) := by omega
  have hkb : ((k * 512 : Nat) : Int) ≤ 131072 := by omega
  have hkb0 : (0 : Int) ≤ ((k * 512 : Nat) : Int) := by omega
  obtain ⟨N, hN⟩ : ∃ N : Nat, k * 512 = N := ⟨_, rfl⟩
  rw [hN] at HC hkm hkb hkb0
  clear h hd hk hc he hb hc1 hN
  go_enter Tryz.func97, Tryz.ntmps97
  go_wp2_with (fail)
  refine HC.out.mono ?_
  rintro e w1 ⟨rfl, rfl⟩
  go_wp2_with (fail)
  refine HT.out.mono ?_
  rintro e w2 ⟨rfl, h2, k2⟩
  go_wp2_with (fail)
  go_ret
  exact ⟨rfl, h2, k2⟩
theorem one_conv (w : World) (c : UInt8) : (convert 83 9 (.slice (some ⟨w.heap.size, 0, none⟩) 1 1)).run Tryz.prog (w.alloc (.cells #[B c] 5)) = .ok (S [c]) (w.alloc (.cells #[B c] 5)) := by
  have h : Row (w.alloc (.cells #[B c] 5)) w.heap.size [c] := heap_new w _
  exact conv_row h 1
theorem begin_any (w : World) (k : Nat) (hk : k < 256 ^ 6) : Calls Tryz.prog 110 #[I k] w fun e w' => e = .returned (S (83 :: putN 6 k)) ∧ Kept [] w w' := by
  have HP := Lib.hid (put_any w k 6 (by omega) (by omega) hk)
  have hl := putN_len 6 k
  obtain ⟨L, hL⟩ : ∃ L, putN 6 k = L := ⟨_, rfl⟩
  rw [hL] at HP hl ⊢
  clear hL
  go_enter Tryz.func110, Tryz.ntmps110
  go_wp2_with (fail)
  refine HP.out.mono ?_
  rintro e w1 ⟨rfl, k1⟩
  have K1 := Lib.hid k1
  clear k1
  have hcv : (convert 83 9 (.slice (some ⟨w1.heap.size, 0, none⟩) 1 1)).run Tryz.prog (w1.alloc (.cells #[.int .u8 83] 5)) = .ok (S [83]) (w1.alloc (.cells #[.int .u8 83] 5)) := one_conv w1 83
  go_wp2_with (fail)
  go_ret
  exact ⟨rfl, K1.out.alloc _⟩
end Go.Proofs.YtdkjlaldhohbmaaGreat
