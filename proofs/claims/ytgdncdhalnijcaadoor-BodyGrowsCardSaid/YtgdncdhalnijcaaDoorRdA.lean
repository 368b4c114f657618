/- Walks and lemmas on the program of this seat, used by its statements; each theorem bears its own conditions. -/
import Derived.Test.YtgdncdhalnijcaaDoorRows
import Derived.Test.YtgdncdhalnijcaaDoorShelf
import Derived.WalkKit
import Derived.WalkSpells
import Derived.WalkLawsBesides
import Derived.Deep.QuietTactic
import Derived.BigQuiet
import Derived.Lib.Hide
import Derived.StillTailTactics
namespace Go.Proofs.YtgdncdhalnijcaaDoor
open Go.RowKit
set_option linter.unusedVariables false
set_option linter.unusedSimpArgs false
namespace BD
/-- Only the blocks of S may have turned, of those that were there. -/
structure Kept (S : List Nat) (w w' : World) : Prop where
  os : w'.os = w.os
  tape : w'.tape = w.tape
  output : w'.output = w.output
  size : w.heap.size ≤ w'.heap.size
  block : ∀ k, k < w.heap.size → k ∉ S → w'.heap[k]? = w.heap[k]?

theorem Kept.refl (S : List Nat) (w : World) : Kept S w w := ⟨rfl, rfl, rfl, Nat.le_refl _, fun _ _ _ => rfl⟩
theorem Kept.trans {S S' : List Nat} {a b c : World} (h : Kept S a b) (k : Kept S' b c) (hs : ∀ x ∈ S', x ∈ S ∨ a.heap.size ≤ x) : Kept S a c :=
  ⟨k.os.trans h.os, k.tape.trans h.tape, k.output.trans h.output, Nat.le_trans h.size k.size, fun i hi hn => by
    rw [k.block i (by have := h.size; omega) (fun hm => by rcases hs i hm with h1 | h1; exact hn h1; omega), h.block i hi hn]⟩
theorem Kept.trans' {S : List Nat} {a b c : World} (h : Kept S a b) (k : Kept S b c) : Kept S a c := h.trans k fun _ hx => .inl hx
theorem Kept.mono {S S' : List Nat} {a b : World} (h : Kept S a b) (hs : ∀ x ∈ S, x ∈ S') : Kept S' a b :=
  ⟨h.os, h.tape, h.output, h.size, fun i hi hn => h.block i hi fun hm => hn (hs i hm)⟩
theorem Kept.drew {S : List Nat} {a w : World} (h : Kept S a w) : Kept S a w.drew := ⟨h.os, h.tape, h.output, h.size, h.block⟩
theorem Kept.drewN {S : List Nat} {a w : World} (h : Kept S a w) (n : Nat) : Kept S a (w.drewN n) := ⟨h.os, h.tape, h.output, h.size, h.block⟩
theorem Kept.alloc {S : List Nat} {a w : World} (h : Kept S a w) (o : Obj) : Kept S a (w.alloc o) :=
  h.trans' ⟨rfl, rfl, rfl, by simp, fun k hk _ => Below.heap_alloc _ _ _ hk⟩
theorem Kept.setCell {S : List Nat} {a w : World} (h : Kept S a w) {p : Addr} (hp : p.block ∈ S ∨ a.heap.size ≤ p.block) (u : Value) : Kept S a (w.setCell p u) :=
  ⟨h.os, h.tape, h.output, by have := h.size; simp [World.setCell]; exact this, fun k hk hn => by
    rw [Below.heap_setCell _ _ _ _ (fun e => by subst e; rcases hp with h1 | h1; exact hn h1; omega)]; exact h.block k hk hn⟩
theorem Kept.of_below {S : List Nat} {B : Nat} {w w' : World} (h : Below B w w') (hB : w.heap.size ≤ B) : Kept S w w' :=
  ⟨h.os, h.tape, h.output, h.size, fun k hk _ => h.block k (by omega)⟩
theorem Kept.below {w w' : World} (h : Kept [] w w') : Below w.heap.size w w' := ⟨h.os, h.tape, h.output, h.size, fun k hk => h.block k hk (by simp)⟩
theorem Kept.cell {S : List Nat} {w w' : World} (h : Kept S w w') {p : Addr} (hp : p.block < w.heap.size) (hn : p.block ∉ S) : w'.cell? p = w.cell? p := World.cell?_of_block (w := w) (h.block p.block hp hn)
theorem Kept.at {S : List Nat} {w w' : World} (h : Kept S w w') {k : Nat} {o : Obj} (hk : w.heap[k]? = some o) (hn : k ∉ S) : w'.heap[k]? = some o := (h.block k (lt_of_block hk) hn).trans hk

theorem heap_setCell_at {w : World} {b : Nat} {cs : Array Value} {t : TypeId} (h : w.heap[b]? = some (.cells cs t (0, 0))) (i : Nat) (v : Value) :
    (w.setCell ⟨b, i, none⟩ v).heap[b]? = some (.cells (cs.setIfInBounds i v) t (0, 0)) := by
  simp [World.setCell, Array.getElem?_modify, h]
theorem cell_at {w : World} {b : Nat} {cs : Array Value} {t : TypeId} (h : w.heap[b]? = some (.cells cs t (0, 0))) (i : Nat) : w.cell? ⟨b, i, none⟩ = cs[i]? := by
  simp [World.cell?, h]
theorem free_at {w : World} {b : Nat} {cs : Array Value} {t : TypeId} (h : w.heap[b]? = some (.cells cs t (0, 0))) (i : Nat) : w.frozen? ⟨b, i, none⟩ = false := by
  simp [World.frozen?, h]

abbrev S (l : List UInt8) : Value := .string ⟨l.toArray⟩
abbrev I (n : Int) : Value := .int .i64 n
abbrev Ptr (b : Nat) : Value := .pointer (some ⟨b, 0, none⟩)

structure Rd where
  state : Int
  size : Int
  left : Int
  many : Int
  lines : Int
  told : Int
  rest : List UInt8
  e : Int

def Rd.obj (r : Rd) : Obj := .cells #[I r.state, I r.size, I r.left, I r.many, I r.lines, I r.told, S r.rest, I r.e] 46 (0, 0)
def RdAt (w : World) (b : Nat) (r : Rd) : Prop := w.heap[b]? = some r.obj

theorem RdAt.cells {w : World} {b : Nat} {r : Rd} (h : RdAt w b r) :
    w.cell? ⟨b, 0, none⟩ = some (I r.state) ∧ w.cell? ⟨b, 1, none⟩ = some (I r.size) ∧ w.cell? ⟨b, 2, none⟩ = some (I r.left) ∧ w.cell? ⟨b, 3, none⟩ = some (I r.many) ∧
    w.cell? ⟨b, 4, none⟩ = some (I r.lines) ∧ w.cell? ⟨b, 5, none⟩ = some (I r.told) ∧ w.cell? ⟨b, 6, none⟩ = some (S r.rest) ∧ w.cell? ⟨b, 7, none⟩ = some (I r.e) := by
  unfold RdAt Rd.obj at h
  simp [cell_at h]
theorem RdAt.free {w : World} {b : Nat} {r : Rd} (h : RdAt w b r) :
    w.frozen? ⟨b, 0, none⟩ = false ∧ w.frozen? ⟨b, 1, none⟩ = false ∧ w.frozen? ⟨b, 2, none⟩ = false ∧ w.frozen? ⟨b, 3, none⟩ = false ∧
    w.frozen? ⟨b, 4, none⟩ = false ∧ w.frozen? ⟨b, 5, none⟩ = false ∧ w.frozen? ⟨b, 6, none⟩ = false ∧ w.frozen? ⟨b, 7, none⟩ = false :=
  ⟨free_at h _, free_at h _, free_at h _, free_at h _, free_at h _, free_at h _, free_at h _, free_at h _⟩
theorem RdAt.set0 {w : World} {b : Nat} {r : Rd} (h : RdAt w b r) (x : Int) : RdAt (w.setCell ⟨b, 0, none⟩ (I x)) b { r with state := x } := heap_setCell_at h 0 _
theorem RdAt.set2 {w : World} {b : Nat} {r : Rd} (h : RdAt w b r) (x : Int) : RdAt (w.setCell ⟨b, 2, none⟩ (I x)) b { r with left := x } := heap_setCell_at h 2 _
theorem RdAt.set3 {w : World} {b : Nat} {r : Rd} (h : RdAt w b r) (x : Int) : RdAt (w.setCell ⟨b, 3, none⟩ (I x)) b { r with many := x } := heap_setCell_at h 3 _
theorem RdAt.set4 {w : World} {b : Nat} {r : Rd} (h : RdAt w b r) (x : Int) : RdAt (w.setCell ⟨b, 4, none⟩ (I x)) b { r with lines := x } := heap_setCell_at h 4 _
theorem RdAt.set5 {w : World} {b : Nat} {r : Rd} (h : RdAt w b r) (x : Int) : RdAt (w.setCell ⟨b, 5, none⟩ (I x)) b { r with told := x } := heap_setCell_at h 5 _
theorem RdAt.set6 {w : World} {b : Nat} {r : Rd} (h : RdAt w b r) (x : List UInt8) : RdAt (w.setCell ⟨b, 6, none⟩ (S x)) b { r with rest := x } := heap_setCell_at h 6 _
theorem RdAt.set7 {w : World} {b : Nat} {r : Rd} (h : RdAt w b r) (x : Int) : RdAt (w.setCell ⟨b, 7, none⟩ (I x)) b { r with e := x } := heap_setCell_at h 7 _

@[go_sem] theorem str_add (a c : List UInt8) : (⟨a.toArray⟩ : ByteArray) ++ ⟨c.toArray⟩ = ⟨(a ++ c).toArray⟩ := by
  apply ByteArray.ext; simp
@[go_sem] theorem str_add_nil (a : List UInt8) : (⟨a.toArray⟩ : ByteArray) ++ ⟨#[]⟩ = ⟨(a ++ []).toArray⟩ := str_add a []
@[go_sem] theorem str_nil_add (a : List UInt8) : (⟨#[]⟩ : ByteArray) ++ ⟨a.toArray⟩ = ⟨a.toArray⟩ := str_add [] a
@[go_sem] theorem str_cut (l : List UInt8) (a b : Nat) : (⟨l.toArray⟩ : ByteArray).extract a b = ⟨((l.take b).drop a).toArray⟩ := by
  rw [Lib.extract_eq]; simp [List.drop_take]
theorem shape_setCell (w : World) (a : Addr) (v : Value) (r : Nat) : (w.setCell a v).shape? r = w.shape? r := by
  simp only [World.shape?, World.setCell, Array.getElem?_modify]
  by_cases h : a.block = r
  · subst h
    cases hh : w.heap[a.block]? with
    | none => simp
    | some o => cases o <;> simp <;> (try split) <;> simp
  · simp [h]
theorem cell_put {w : World} {b : Nat} {t n : Nat} (h : w.shape? b = some (t, n)) {i : Nat} (hi : i < n) (v : Value) : (w.setCell ⟨b, i, none⟩ v).cell? ⟨b, i, none⟩ = some v := by
  simp only [World.shape?] at h
  split at h
  · rename_i cs t' f hh
    simp at h
    have : (w.setCell ⟨b, i, none⟩ v).heap[b]? = some (.cells (cs.setIfInBounds i v) t' f) := by simp [World.setCell, Array.getElem?_modify, hh]
    have hi' : i < cs.size := by omega
    simp [World.cell?, this, hi']
  · simp at h
theorem RdAt.puts {w : World} {b : Nat} {r : Rd} (h : RdAt w b r) : (∀ (W : World) (i : Nat) (v : Value), W.shape? b = some (46, 8) → i < 8 → (W.setCell ⟨b, i, none⟩ v).cell? ⟨b, i, none⟩ = some v) ∧
    (∀ (W : World) (a : Addr) (v : Value), (W.setCell a v).shape? b = W.shape? b) ∧ w.shape? b = some (46, 8) :=
  ⟨fun _ _ _ h1 h2 => cell_put h1 h2 _, fun _ _ _ => shape_setCell _ _ _ _, by unfold RdAt Rd.obj at h; simp [World.shape?, h]⟩
def RdPost (b : Nat) (w : World) (res : Rd × Int) (e : Ending) (w' : World) : Prop := e = .returned (I res.2) ∧ RdAt w' b res.1 ∧ Kept [b] w w'
theorem RdPost.mk {b : Nat} {w w' : World} {res : Rd × Int} {r' : Rd} {k : Int} (h1 : RdAt w' b r') (h2 : Kept [b] w w') (h : res = (r', k)) : RdPost b w res (.returned (I k)) w' := by
  subst h; exact ⟨rfl, h1, h2⟩
theorem RdAt.drew {w : World} {b : Nat} {r : Rd} (h : RdAt w b r) : RdAt w.drew b r := h
theorem RdAt.drewN {w : World} {b : Nat} {r : Rd} (h : RdAt w b r) (n : Nat) : RdAt (w.drewN n) b r := h

/-- 'is' -/
def isF (r : Rd) (c want next : Int) : Rd × Int := if c = want then ({ r with state := next }, 0) else (r, 180)
def beginsF (r : Rd) : Rd × Int :=
  if r.left = 0 then ({ r with many := 0, state := 7 }, 0) else if r.left > 1048576 - r.told then ({ r with many := 0 }, 181) else ({ r with many := 0, state := 4 }, 0)

set_option maxHeartbeats 400000 in
theorem is_any (b : Nat) (c want next : Int) (r : Rd) (w : World) (h : RdAt w b r) :
    Calls Tryd.prog 39 #[Ptr b, .int .u8 c, .int .u8 want, I next] w (RdPost b w (isF r c want next)) := by
  obtain ⟨f0, f1, f2, f3, f4, f5, f6, f7⟩ := h.cells
  obtain ⟨g0, g1, g2, g3, g4, g5, g6, g7⟩ := h.free
  obtain ⟨p1, p2, p3⟩ := h.puts
  go_enter Tryd.func39, Tryd.ntmps39
  go_wp2
  all_goals
    go_ret
    refine RdPost.mk (by with_reducible repeat (first | exact h | apply RdAt.drew | apply RdAt.drewN | apply RdAt.set0 | apply RdAt.set2 | apply RdAt.set3 | apply RdAt.set4 | apply RdAt.set5 | apply RdAt.set7)) (by with_reducible repeat (first | exact Kept.refl _ _ | refine Kept.drew ?_ | refine Kept.drewN ?_ _ | refine Kept.setCell ?_ (by simp) _)) ?_
    unfold isF
    (try simp only [beq_iff_eq, bne_iff_ne, beq_eq_false_iff_ne, bne_eq_false_iff_eq, ne_eq, Bool.not_eq_true, Bool.not_eq_false, Bool.or_eq_true, Bool.and_eq_true, decide_eq_true_eq, decide_eq_false_iff_not] at *); (repeat' split) <;> first | rfl | (exfalso; omega) | (simp_all; done) | (simp_all; omega)

set_option maxHeartbeats 400000 in
theorem begins_any (b : Nat) (r : Rd) (w : World) (h : RdAt w b r) (hl : 0 ≤ r.left) (hl' : r.left ≤ 16777216) (ht : 0 ≤ r.told) (ht' : r.told ≤ 1048576) :
    Calls Tryd.prog 40 #[Ptr b] w (RdPost b w (beginsF r)) := by
  obtain ⟨f0, f1, f2, f3, f4, f5, f6, f7⟩ := h.cells
  obtain ⟨g0, g1, g2, g3, g4, g5, g6, g7⟩ := h.free
  obtain ⟨p1, p2, p3⟩ := h.puts
  go_enter Tryd.func40, Tryd.ntmps40
  go_wp2
  · go_ret
    refine RdPost.mk (by with_reducible repeat (first | exact h | apply RdAt.drew | apply RdAt.drewN | apply RdAt.set0 | apply RdAt.set2 | apply RdAt.set3 | apply RdAt.set4 | apply RdAt.set5 | apply RdAt.set7)) (by with_reducible repeat (first | exact Kept.refl _ _ | refine Kept.drew ?_ | refine Kept.drewN ?_ _ | refine Kept.setCell ?_ (by simp) _)) ?_
    unfold beginsF
    (try simp only [beq_iff_eq, bne_iff_ne, beq_eq_false_iff_ne, bne_eq_false_iff_eq, ne_eq, Bool.not_eq_true, Bool.not_eq_false, Bool.or_eq_true, Bool.and_eq_true, decide_eq_true_eq, decide_eq_false_iff_not] at *); (repeat' split) <;> first | rfl | (exfalso; omega) | (simp_all; done) | (simp_all; omega)
  · go_quiet (fail)
    go_wp2
    all_goals
      go_ret
      refine RdPost.mk (by with_reducible repeat (first | exact h | apply RdAt.drew | apply RdAt.drewN | apply RdAt.set0 | apply RdAt.set2 | apply RdAt.set3 | apply RdAt.set4 | apply RdAt.set5 | apply RdAt.set7)) (by with_reducible repeat (first | exact Kept.refl _ _ | refine Kept.drew ?_ | refine Kept.drewN ?_ _ | refine Kept.setCell ?_ (by simp) _)) ?_
      unfold beginsF
      (try simp only [beq_iff_eq, bne_iff_ne, beq_eq_false_iff_ne, bne_eq_false_iff_eq, ne_eq, Bool.not_eq_true, Bool.not_eq_false, Bool.or_eq_true, Bool.and_eq_true, decide_eq_true_eq, decide_eq_false_iff_not] at *); (repeat' split) <;> first | rfl | (exfalso; omega) | (simp_all; done) | (simp_all; omega)



abbrev B (c : UInt8) : Value := .int .u8 (c.toNat : Int)
def digitF (c : UInt8) : Int := if 48 ≤ c.toNat ∧ c.toNat ≤ 57 then (c.toNat : Int) - 48 else if 97 ≤ c.toNat ∧ c.toNat ≤ 102 then (c.toNat : Int) - 87 else if 65 ≤ c.toNat ∧ c.toNat ≤ 70 then (c.toNat : Int) - 55 else -1
theorem digitF_le (c : UInt8) : -1 ≤ digitF c ∧ digitF c ≤ 15 := by unfold digitF; split; omega; split; omega; split; omega; omega
def hexes : List UInt8 := [48, 49, 50, 51, 52, 53, 54, 55, 56, 57, 97, 98, 99, 100, 101, 102]
theorem digit_tab : ∀ n, n < 256 → Lib.indexByte hexes (if 65 ≤ n ∧ n ≤ 70 then UInt8.ofNat (n + 32) else UInt8.ofNat n) = digitF (UInt8.ofNat n) := by decide +kernel
theorem digit_up (c : UInt8) (h : 65 ≤ c.toNat ∧ c.toNat ≤ 70) : Lib.indexByte hexes ((c.toNat : Int) + 32).toNat.toUInt8 = digitF c := by
  have ht := digit_tab c.toNat c.toNat_lt
  rw [if_pos h, UInt8.ofNat_toNat] at ht
  rw [← ht]; congr 1
theorem digit_as (c : UInt8) (h : ¬ (65 ≤ c.toNat ∧ c.toNat ≤ 70)) : Lib.indexByte hexes c = digitF c := by
  have ht := digit_tab c.toNat c.toNat_lt
  rw [if_neg h, UInt8.ofNat_toNat] at ht
  rw [← ht]
theorem ret_I {a b : Int} (h : a = b) : Ending.returned (I a) = .returned (I b) := by rw [h]

set_option maxHeartbeats 400000 in
theorem digit_any (c : UInt8) (w : World) : Calls Tryd.prog 43 #[B c] w fun e w' => e = .returned (I (digitF c)) ∧ w = w' := by
  have hc : c.toNat < 256 := c.toNat_lt
  have hlo : (0 : Int) ≤ (c.toNat : Int) := by omega
  have hhi : (c.toNat : Int) ≤ 255 := by omega
  by_cases h1 : 65 ≤ c.toNat ∧ c.toNat ≤ 70
  · have H := Lib.hid (digit_up c h1)
    obtain ⟨ha, hb⟩ := h1
    have ha' : (65 : Int) ≤ (c.toNat : Int) := by omega
    have hb' : (c.toNat : Int) ≤ 70 := by omega
    go_enter Tryd.func43, Tryd.ntmps43
    go_wp2_with (fail)
    refine (Tryd.strings_IndexByte _ _ _).mono ?_
    rintro e w' ⟨rfl, rfl⟩
    go_wp2
    go_ret
    exact ⟨ret_I H.out, rfl⟩
  · have H := Lib.hid (digit_as c h1)
    go_enter Tryd.func43, Tryd.ntmps43
    go_wp2_with (fail)
    all_goals
      refine (Tryd.strings_IndexByte _ _ _).mono ?_
      rintro e w' ⟨rfl, rfl⟩
      go_wp2
      go_ret
      exact ⟨ret_I H.out, rfl⟩

def lineF (r : Rd) (c : UInt8) : Rd × Int :=
  if c.toNat = 13 ∧ 0 < r.many then ({ r with state := 3 }, 0) else if digitF c < 0 ∨ r.many = 6 then (r, 180) else ({ r with left := 16 * r.left + digitF c, many := r.many + 1 }, 0)

set_option maxHeartbeats 400000 in
theorem line_any (b : Nat) (c : UInt8) (r : Rd) (w : World) (h : RdAt w b r) (hm : 0 ≤ r.many) (hm' : r.many ≤ 6) (hl : 0 ≤ r.left) (hl' : r.left ≤ 16777216) :
    Calls Tryd.prog 38 #[Ptr b, B c] w (RdPost b w (lineF r c)) := by
  obtain ⟨f0, f1, f2, f3, f4, f5, f6, f7⟩ := h.cells
  obtain ⟨g0, g1, g2, g3, g4, g5, g6, g7⟩ := h.free
  obtain ⟨p1, p2, p3⟩ := h.puts
  have hc : c.toNat < 256 := c.toNat_lt
  have hlo : (0 : Int) ≤ (c.toNat : Int) := by omega
  have hhi : (c.toNat : Int) ≤ 255 := by omega
  obtain ⟨d1, d2⟩ := digitF_le c
  go_enter Tryd.func38, Tryd.ntmps38
  go_wp2_with (fail)
  all_goals first
    | (refine (digit_any _ _).mono ?_
       rintro e w' ⟨rfl, rfl⟩
       go_wp2_with (fail))
    | skip
  all_goals first
    | go_ret
    | (go_region; go_wp2; go_ret)
  all_goals
    refine RdPost.mk (by with_reducible repeat (first | exact h | apply RdAt.drew | apply RdAt.drewN | apply RdAt.set0 | apply RdAt.set2 | apply RdAt.set3 | apply RdAt.set4 | apply RdAt.set5 | apply RdAt.set7)) (by with_reducible repeat (first | exact Kept.refl _ _ | refine Kept.drew ?_ | refine Kept.drewN ?_ _ | refine Kept.setCell ?_ (by simp) _)) ?_
  all_goals unfold lineF
  all_goals ((try simp only [beq_iff_eq, bne_iff_ne, beq_eq_false_iff_ne, bne_eq_false_iff_eq, ne_eq, Bool.not_eq_true, Bool.not_eq_false, Bool.or_eq_true, Bool.and_eq_true, decide_eq_true_eq, decide_eq_false_iff_not] at *); (repeat' split) <;> first | rfl | (exfalso; omega) | (simp_all; done) | (simp_all; omega))
end BD
end Go.Proofs.YtgdncdhalnijcaaDoor
