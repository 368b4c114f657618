/- Walks and lemmas on the program of this seat, used by its statements; each theorem bears its own conditions. -/
import Derived.Test.YtgdncdhalnijcaaGreatDoorRows
import Derived.Test.YtgdncdhalnijcaaGreatDoorShelf
import Derived.WalkKit
import Derived.WalkSpells
import Derived.WalkLawsBesides
import Derived.Deep.QuietTactic
import Derived.BigQuiet
import Derived.Lib.Hide
import Derived.StillTailTactics
namespace Go.Proofs.YtgdncdhalnijcaaGreatDoor
open Go.RowKit
set_option linter.unusedVariables false
set_option linter.unusedSimpArgs false
section
namespace BD
/-- Only the blocks of S may have turned, of those that were there. -/
structure Kept (S : List Nat) (w w' : World) : Prop where
  os : w'.os = w.os
  tape : w'.tape = w.tape
  output : w'.output = w.output
  size : w.heap.size ≤ w'.heap.size
  block : ∀ k, k < w.heap.size → k ∉ S → w'.heap[k]? = w.heap[k]?

theorem Kept.refl (S : List Nat) (w : World) : Kept S w w := ⟨rfl, rfl, rfl, Nat.le_refl _, fun _ _ _ => rfl⟩
theorem Kept.trans {S S' : List Nat} {a b c : World} (h : Kept S a b) (k : Kept S' b c) (hs : ∀ x ∈ S', x ∈ S ∨ a.heap.size ≤ x) : Kept S a c :=
  ⟨k.os.trans h.os, k.tape.trans h.tape, k.output.trans h.output, Nat.le_trans h.size k.size, fun i hi hn => by
    rw [k.block i (by have := h.size; omega) (fun hm => by rcases hs i hm with h1 | h1; exact hn h1; omega), h.block i hi hn]⟩
theorem Kept.trans' {S : List Nat} {a b c : World} (h : Kept S a b) (k : Kept S b c) : Kept S a c := h.trans k fun _ hx => .inl hx
theorem Kept.mono {S S' : List Nat} {a b : World} (h : Kept S a b) (hs : ∀ x ∈ S, x ∈ S') : Kept S' a b :=
  ⟨h.os, h.tape, h.output, h.size, fun i hi hn => h.block i hi fun hm => hn (hs i hm)⟩
theorem Kept.drew {S : List Nat} {a w : World} (h : Kept S a w) : Kept S a w.drew := ⟨h.os, h.tape, h.output, h.size, h.block⟩
theorem Kept.drewN {S : List Nat} {a w : World} (h : Kept S a w) (n : Nat) : Kept S a (w.drewN n) := ⟨h.os, h.tape, h.output, h.size, h.block⟩
theorem Kept.alloc {S : List Nat} {a w : World} (h : Kept S a w) (o : Obj) : Kept S a (w.alloc o) :=
  h.trans' ⟨rfl, rfl, rfl, by simp, fun k hk _ => Below.heap_alloc _ _ _ hk⟩
theorem Kept.setCell {S : List Nat} {a w : World} (h : Kept S a w) {p : Addr} (hp : p.block ∈ S ∨ a.heap.size ≤ p.block) (u : Value) : Kept S a (w.setCell p u) :=
  ⟨h.os, h.tape, h.output, by have := h.size; simp [World.setCell]; exact this, fun k hk hn => by
    rw [Below.heap_setCell _ _ _ _ (fun e => by subst e; rcases hp with h1 | h1; exact hn h1; omega)]; exact h.block k hk hn⟩
theorem Kept.of_below {S : List Nat} {B : Nat} {w w' : World} (h : Below B w w') (hB : w.heap.size ≤ B) : Kept S w w' :=
  ⟨h.os, h.tape, h.output, h.size, fun k hk _ => h.block k (by omega)⟩
theorem Kept.below {w w' : World} (h : Kept [] w w') : Below w.heap.size w w' := ⟨h.os, h.tape, h.output, h.size, fun k hk => h.block k hk (by simp)⟩
theorem Kept.cell {S : List Nat} {w w' : World} (h : Kept S w w') {p : Addr} (hp : p.block < w.heap.size) (hn : p.block ∉ S) : w'.cell? p = w.cell? p := World.cell?_of_block (w := w) (h.block p.block hp hn)
theorem Kept.at {S : List Nat} {w w' : World} (h : Kept S w w') {k : Nat} {o : Obj} (hk : w.heap[k]? = some o) (hn : k ∉ S) : w'.heap[k]? = some o := (h.block k (lt_of_block hk) hn).trans hk

theorem heap_setCell_at {w : World} {b : Nat} {cs : Array Value} {t : TypeId} (h : w.heap[b]? = some (.cells cs t (0, 0))) (i : Nat) (v : Value) :
    (w.setCell ⟨b, i, none⟩ v).heap[b]? = some (.cells (cs.setIfInBounds i v) t (0, 0)) := by
  simp [World.setCell, Array.getElem?_modify, h]
theorem cell_at {w : World} {b : Nat} {cs : Array Value} {t : TypeId} (h : w.heap[b]? = some (.cells cs t (0, 0))) (i : Nat) : w.cell? ⟨b, i, none⟩ = cs[i]? := by
  simp [World.cell?, h]
theorem free_at {w : World} {b : Nat} {cs : Array Value} {t : TypeId} (h : w.heap[b]? = some (.cells cs t (0, 0))) (i : Nat) : w.frozen? ⟨b, i, none⟩ = false := by
  simp [World.frozen?, h]

abbrev S (l : List UInt8) : Value := .string ⟨l.toArray⟩
abbrev I (n : Int) : Value := .int .i64 n
abbrev Ptr (b : Nat) : Value := .pointer (some ⟨b, 0, none⟩)

structure Rd where
  state : Int
  size : Int
  left : Int
  many : Int
  lines : Int
  told : Int
  rest : List UInt8
  e : Int

def Rd.obj (r : Rd) : Obj := .cells #[I r.state, I r.size, I r.left, I r.many, I r.lines, I r.told, S r.rest, I r.e] 92 (0, 0)
def RdAt (w : World) (b : Nat) (r : Rd) : Prop := w.heap[b]? = some r.obj

theorem RdAt.cells {w : World} {b : Nat} {r : Rd} (h : RdAt w b r) :
    w.cell? ⟨b, 0, none⟩ = some (I r.state) ∧ w.cell? ⟨b, 1, none⟩ = some (I r.size) ∧ w.cell? ⟨b, 2, none⟩ = some (I r.left) ∧ w.cell? ⟨b, 3, none⟩ = some (I r.many) ∧
    w.cell? ⟨b, 4, none⟩ = some (I r.lines) ∧ w.cell? ⟨b, 5, none⟩ = some (I r.told) ∧ w.cell? ⟨b, 6, none⟩ = some (S r.rest) ∧ w.cell? ⟨b, 7, none⟩ = some (I r.e) := by
  unfold RdAt Rd.obj at h
  simp [cell_at h]
theorem RdAt.free {w : World} {b : Nat} {r : Rd} (h : RdAt w b r) :
    w.frozen? ⟨b, 0, none⟩ = false ∧ w.frozen? ⟨b, 1, none⟩ = false ∧ w.frozen? ⟨b, 2, none⟩ = false ∧ w.frozen? ⟨b, 3, none⟩ = false ∧
    w.frozen? ⟨b, 4, none⟩ = false ∧ w.frozen? ⟨b, 5, none⟩ = false ∧ w.frozen? ⟨b, 6, none⟩ = false ∧ w.frozen? ⟨b, 7, none⟩ = false :=
  ⟨free_at h _, free_at h _, free_at h _, free_at h _, free_at h _, free_at h _, free_at h _, free_at h _⟩
theorem RdAt.set0 {w : World} {b : Nat} {r : Rd} (h : RdAt w b r) (x : Int) : RdAt (w.setCell ⟨b, 0, none⟩ (I x)) b { r with state := x } := heap_setCell_at h 0 _
theorem RdAt.set2 {w : World} {b : Nat} {r : Rd} (h : RdAt w b r) (x : Int) : RdAt (w.setCell ⟨b, 2, none⟩ (I x)) b { r with left := x } := heap_setCell_at h 2 _
theorem RdAt.set3 {w : World} {b : Nat} {r : Rd} (h : RdAt w b r) (x : Int) : RdAt (w.setCell ⟨b, 3, none⟩ (I x)) b { r with many := x } := heap_setCell_at h 3 _
theorem RdAt.set4 {w : World} {b : Nat} {r : Rd} (h : RdAt w b r) (x : Int) : RdAt (w.setCell ⟨b, 4, none⟩ (I x)) b { r with lines := x } := heap_setCell_at h 4 _
theorem RdAt.set5 {w : World} {b : Nat} {r : Rd} (h : RdAt w b r) (x : Int) : RdAt (w.setCell ⟨b, 5, none⟩ (I x)) b { r with told := x } := heap_setCell_at h 5 _
theorem RdAt.set6 {w : World} {b : Nat} {r : Rd} (h : RdAt w b r) (x : List UInt8) : RdAt (w.setCell ⟨b, 6, none⟩ (S x)) b { r with rest := x } := heap_setCell_at h 6 _
theorem RdAt.set7 {w : World} {b : Nat} {r : Rd} (h : RdAt w b r) (x : Int) : RdAt (w.setCell ⟨b, 7, none⟩ (I x)) b { r with e := x } := heap_setCell_at h 7 _

@[go_sem] theorem str_add (a c : List UInt8) : (⟨a.toArray⟩ : ByteArray) ++ ⟨c.toArray⟩ = ⟨(a ++ c).toArray⟩ := by
  apply ByteArray.ext; simp
@[go_sem] theorem str_add_nil (a : List UInt8) : (⟨a.toArray⟩ : ByteArray) ++ ⟨#[]⟩ = ⟨(a ++ []).toArray⟩ := str_add a []
@[go_sem] theorem str_nil_add (a : List UInt8) : (⟨#[]⟩ : ByteArray) ++ ⟨a.toArray⟩ = ⟨a.toArray⟩ := str_add [] a
@[go_sem] theorem str_cut (l : List UInt8) (a b : Nat) : (⟨l.toArray⟩ : ByteArray).extract a b = ⟨((l.take b).drop a).toArray⟩ := by
  rw [Lib.extract_eq]; simp [List.drop_take]
theorem shape_setCell (w : World) (a : Addr) (v : Value) (r : Nat) : (w.setCell a v).shape? r = w.shape? r := by
  simp only [World.shape?, World.setCell, Array.getElem?_modify]
  by_cases h : a.block = r
  · subst h
    cases hh : w.heap[a.block]? with
    | none => simp
    | some o => cases o <;> simp <;> (try split) <;> simp
  · simp [h]
theorem cell_put {w : World} {b : Nat} {t n : Nat} (h : w.shape? b = some (t, n)) {i : Nat} (hi : i < n) (v : Value) : (w.setCell ⟨b, i, none⟩ v).cell? ⟨b, i, none⟩ = some v := by
  simp only [World.shape?] at h
  split at h
  · rename_i cs t' f hh
    simp at h
    have : (w.setCell ⟨b, i, none⟩ v).heap[b]? = some (.cells (cs.setIfInBounds i v) t' f) := by simp [World.setCell, Array.getElem?_modify, hh]
    have hi' : i < cs.size := by omega
    simp [World.cell?, this, hi']
  · simp at h
theorem RdAt.puts {w : World} {b : Nat} {r : Rd} (h : RdAt w b r) : (∀ (W : World) (i : Nat) (v : Value), W.shape? b = some (92, 8) → i < 8 → (W.setCell ⟨b, i, none⟩ v).cell? ⟨b, i, none⟩ = some v) ∧
    (∀ (W : World) (a : Addr) (v : Value), (W.setCell a v).shape? b = W.shape? b) ∧ w.shape? b = some (92, 8) :=
  ⟨fun _ _ _ h1 h2 => cell_put h1 h2 _, fun _ _ _ => shape_setCell _ _ _ _, by unfold RdAt Rd.obj at h; simp [World.shape?, h]⟩
def RdPost (b : Nat) (w : World) (res : Rd × Int) (e : Ending) (w' : World) : Prop := e = .returned (I res.2) ∧ RdAt w' b res.1 ∧ Kept [b] w w'
theorem RdPost.mk {b : Nat} {w w' : World} {res : Rd × Int} {r' : Rd} {k : Int} (h1 : RdAt w' b r') (h2 : Kept [b] w w') (h : res = (r', k)) : RdPost b w res (.returned (I k)) w' := by
  subst h; exact ⟨rfl, h1, h2⟩
theorem RdAt.drew {w : World} {b : Nat} {r : Rd} (h : RdAt w b r) : RdAt w.drew b r := h
theorem RdAt.drewN {w : World} {b : Nat} {r : Rd} (h : RdAt w b r) (n : Nat) : RdAt (w.drewN n) b r := h

/-- 'is' -/
def isF (r : Rd) (c want next : Int) : Rd × Int := if c = want then ({ r with state := next }, 0) else (r, 180)
def beginsF (r : Rd) : Rd × Int :=
  if r.left = 0 then ({ r with many := 0, state := 7 }, 0) else if r.left > 1048576 - r.told then ({ r with many := 0 }, 181) else ({ r with many := 0, state := 4 }, 0)

set_option maxHeartbeats 400000 in
theorem is_any (b : Nat) (c want next : Int) (r : Rd) (w : World) (h : RdAt w b r) :
    Calls Tryz.prog 121 #[Ptr b, .int .u8 c, .int .u8 want, I next] w (RdPost b w (isF r c want next)) := by
  obtain ⟨f0, f1, f2, f3, f4, f5, f6, f7⟩ := h.cells
  obtain ⟨g0, g1, g2, g3, g4, g5, g6, g7⟩ := h.free
  obtain ⟨p1, p2, p3⟩ := h.puts
  go_enter Tryz.func121, Tryz.ntmps121
  go_wp2
  all_goals
    go_ret
    refine RdPost.mk (by with_reducible repeat (first | exact h | apply RdAt.drew | apply RdAt.drewN | apply RdAt.set0 | apply RdAt.set2 | apply RdAt.set3 | apply RdAt.set4 | apply RdAt.set5 | apply RdAt.set7)) (by with_reducible repeat (first | exact Kept.refl _ _ | refine Kept.drew ?_ | refine Kept.drewN ?_ _ | refine Kept.setCell ?_ (by simp) _)) ?_
    unfold isF
    (try simp only [beq_iff_eq, bne_iff_ne, beq_eq_false_iff_ne, bne_eq_false_iff_eq, ne_eq, Bool.not_eq_true, Bool.not_eq_false, Bool.or_eq_true, Bool.and_eq_true, decide_eq_true_eq, decide_eq_false_iff_not] at *); (repeat' split) <;> first | rfl | (exfalso; omega) | (simp_all; done) | (simp_all; omega)

set_option maxHeartbeats 400000 in
theorem begins_any (b : Nat) (r : Rd) (w : World) (h : RdAt w b r) (hl : 0 ≤ r.left) (hl' : r.left ≤ 16777216) (ht : 0 ≤ r.told) (ht' : r.told ≤ 1048576) :
    Calls Tryz.prog 122 #[Ptr b] w (RdPost b w (beginsF r)) := by
  obtain ⟨f0, f1, f2, f3, f4, f5, f6, f7⟩ := h.cells
  obtain ⟨g0, g1, g2, g3, g4, g5, g6, g7⟩ := h.free
  obtain ⟨p1, p2, p3⟩ := h.puts
  go_enter Tryz.func122, Tryz.ntmps122
  go_wp2
  · go_ret
    refine RdPost.mk (by with_reducible repeat (first | exact h | apply RdAt.drew | apply RdAt.drewN | apply RdAt.set0 | apply RdAt.set2 | apply RdAt.set3 | apply RdAt.set4 | apply RdAt.set5 | apply RdAt.set7)) (by with_reducible repeat (first | exact Kept.refl _ _ | refine Kept.drew ?_ | refine Kept.drewN ?_ _ | refine Kept.setCell ?_ (by simp) _)) ?_
    unfold beginsF
    (try simp only [beq_iff_eq, bne_iff_ne, beq_eq_false_iff_ne, bne_eq_false_iff_eq, ne_eq, Bool.not_eq_true, Bool.not_eq_false, Bool.or_eq_true, Bool.and_eq_true, decide_eq_true_eq, decide_eq_false_iff_not] at *); (repeat' split) <;> first | rfl | (exfalso; omega) | (simp_all; done) | (simp_all; omega)
  · go_quiet (fail)
    go_wp2
    all_goals
      go_ret
      refine RdPost.mk (by with_reducible repeat (first | exact h | apply RdAt.drew | apply RdAt.drewN | apply RdAt.set0 | apply RdAt.set2 | apply RdAt.set3 | apply RdAt.set4 | apply RdAt.set5 | apply RdAt.set7)) (by with_reducible repeat (first | exact Kept.refl _ _ | refine Kept.drew ?_ | refine Kept.drewN ?_ _ | refine Kept.setCell ?_ (by simp) _)) ?_
      unfold beginsF
      (try simp only [beq_iff_eq, bne_iff_ne, beq_eq_false_iff_ne, bne_eq_false_iff_eq, ne_eq, Bool.not_eq_true, Bool.not_eq_false, Bool.or_eq_true, Bool.and_eq_true, decide_eq_true_eq, decide_eq_false_iff_not] at *); (repeat' split) <;> first | rfl | (exfalso; omega) | (simp_all; done) | (simp_all; omega)



abbrev B (c : UInt8) : Value := .int .u8 (c.toNat : Int)
def digitF (c : UInt8) : Int := if 48 ≤ c.toNat ∧ c.toNat ≤ 57 then (c.toNat : Int) - 48 else if 97 ≤ c.toNat ∧ c.toNat ≤ 102 then (c.toNat : Int) - 87 else if 65 ≤ c.toNat ∧ c.toNat ≤ 70 then (c.toNat : Int) - 55 else -1
theorem digitF_le (c : UInt8) : -1 ≤ digitF c ∧ digitF c ≤ 15 := by unfold digitF; split; omega; split; omega; split; omega; omega
def hexes : List UInt8 := [48, 49, 50, 51, 52, 53, 54, 55, 56, 57, 97, 98, 99, 100, 101, 102]
theorem digit_tab : ∀ n, n < 256 → Lib.indexByte hexes (if 65 ≤ n ∧ n ≤ 70 then UInt8.ofNat (n + 32) else UInt8.ofNat n) = digitF (UInt8.ofNat n) := by decide +kernel
theorem digit_up (c : UInt8) (h : 65 ≤ c.toNat ∧ c.toNat ≤ 70) : Lib.indexByte hexes ((c.toNat : Int) + 32).toNat.toUInt8 = digitF c := by
  have ht := digit_tab c.toNat c.toNat_lt
  rw [if_pos h, UInt8.ofNat_toNat] at ht
  rw [← ht]; congr 1
theorem digit_as (c : UInt8) (h : ¬ (65 ≤ c.toNat ∧ c.toNat ≤ 70)) : Lib.indexByte hexes c = digitF c := by
  have ht := digit_tab c.toNat c.toNat_lt
  rw [if_neg h, UInt8.ofNat_toNat] at ht
  rw [← ht]
theorem ret_I {a b : Int} (h : a = b) : Ending.returned (I a) = .returned (I b) := by rw [h]

set_option maxHeartbeats 400000 in
theorem digit_any (c : UInt8) (w : World) : Calls Tryz.prog 138 #[B c] w fun e w' => e = .returned (I (digitF c)) ∧ w = w' := by
  have hc : c.toNat < 256 := c.toNat_lt
  have hlo : (0 : Int) ≤ (c.toNat : Int) := by omega
  have hhi : (c.toNat : Int) ≤ 255 := by omega
  by_cases h1 : 65 ≤ c.toNat ∧ c.toNat ≤ 70
  · have H := Lib.hid (digit_up c h1)
    obtain ⟨ha, hb⟩ := h1
    have ha' : (65 : Int) ≤ (c.toNat : Int) := by omega
    have hb' : (c.toNat : Int) ≤ 70 := by omega
    go_enter Tryz.func138, Tryz.ntmps138
    go_wp2_with (fail)
    refine (Tryz.strings_IndexByte _ _ _).mono ?_
    rintro e w' ⟨rfl, rfl⟩
    go_wp2
    go_ret
    exact ⟨ret_I H.out, rfl⟩
  · have H := Lib.hid (digit_as c h1)
    go_enter Tryz.func138, Tryz.ntmps138
    go_wp2_with (fail)
    all_goals
      refine (Tryz.strings_IndexByte _ _ _).mono ?_
      rintro e w' ⟨rfl, rfl⟩
      go_wp2
      go_ret
      exact ⟨ret_I H.out, rfl⟩

def lineF (r : Rd) (c : UInt8) : Rd × Int :=
  if c.toNat = 13 ∧ 0 < r.many then ({ r with state := 3 }, 0) else if digitF c < 0 ∨ r.many = 6 then (r, 180) else ({ r with left := 16 * r.left + digitF c, many := r.many + 1 }, 0)

set_option maxHeartbeats 400000 in
theorem line_any (b : Nat) (c : UInt8) (r : Rd) (w : World) (h : RdAt w b r) (hm : 0 ≤ r.many) (hm' : r.many ≤ 6) (hl : 0 ≤ r.left) (hl' : r.left ≤ 16777216) :
    Calls Tryz.prog 120 #[Ptr b, B c] w (RdPost b w (lineF r c)) := by
  obtain ⟨f0, f1, f2, f3, f4, f5, f6, f7⟩ := h.cells
  obtain ⟨g0, g1, g2, g3, g4, g5, g6, g7⟩ := h.free
  obtain ⟨p1, p2, p3⟩ := h.puts
  have hc : c.toNat < 256 := c.toNat_lt
  have hlo : (0 : Int) ≤ (c.toNat : Int) := by omega
  have hhi : (c.toNat : Int) ≤ 255 := by omega
  obtain ⟨d1, d2⟩ := digitF_le c
  go_enter Tryz.func120, Tryz.ntmps120
  go_wp2_with (fail)
  all_goals first
    | (refine (digit_any _ _).mono ?_
       rintro e w' ⟨rfl, rfl⟩
       go_wp2_with (fail))
    | skip
  all_goals first
    | go_ret
    | (go_region; go_wp2; go_ret)
  all_goals
    refine RdPost.mk (by with_reducible repeat (first | exact h | apply RdAt.drew | apply RdAt.drewN | apply RdAt.set0 | apply RdAt.set2 | apply RdAt.set3 | apply RdAt.set4 | apply RdAt.set5 | apply RdAt.set7)) (by with_reducible repeat (first | exact Kept.refl _ _ | refine Kept.drew ?_ | refine Kept.drewN ?_ _ | refine Kept.setCell ?_ (by simp) _)) ?_
  all_goals unfold lineF
  all_goals ((try simp only [beq_iff_eq, bne_iff_ne, beq_eq_false_iff_ne, bne_eq_false_iff_eq, ne_eq, Bool.not_eq_true, Bool.not_eq_false, Bool.or_eq_true, Bool.and_eq_true, decide_eq_true_eq, decide_eq_false_iff_not] at *); (repeat' split) <;> first | rfl | (exfalso; omega) | (simp_all; done) | (simp_all; omega))
end BD
end
section
namespace BD
def withinF (r : Rd) (c : UInt8) : Rd × Int :=
  if c.toNat = 13 ∧ r.state = 7 then ({ r with state := 10 }, 0)
  else if r.state = 7 then
    if r.lines + 1 > 32 then ({ r with lines := r.lines + 1 }, 180)
    else if c.toNat = 13 then ({ r with lines := r.lines + 1, many := 0, state := 9 }, 0)
    else ({ r with lines := r.lines + 1, many := 1, state := 8 }, 0)
  else if c.toNat = 10 ∧ r.state = 9 then ({ r with state := 7 }, 0)
  else
    let m := if r.state = 9 then r.many + 1 else r.many
    if c.toNat = 13 then ({ r with many := m, state := 9 }, if m > 256 then 181 else 0)
    else ({ r with many := m + 1, state := 8 }, if m + 1 > 256 then 181 else 0)

set_option maxHeartbeats 1000000 in
theorem within_any (b : Nat) (c : UInt8) (r : Rd) (w : World) (h : RdAt w b r) (hm : 0 ≤ r.many) (hm' : r.many ≤ 300) (hl : 0 ≤ r.lines) (hl' : r.lines ≤ 40) :
    Calls Tryz.prog 123 #[Ptr b, B c] w (RdPost b w (withinF r c)) := by
  obtain ⟨f0, f1, f2, f3, f4, f5, f6, f7⟩ := h.cells
  obtain ⟨g0, g1, g2, g3, g4, g5, g6, g7⟩ := h.free
  obtain ⟨p1, p2, p3⟩ := h.puts
  have hc : c.toNat < 256 := c.toNat_lt
  have hlo : (0 : Int) ≤ (c.toNat : Int) := by omega
  have hhi : (c.toNat : Int) ≤ 255 := by omega
  go_enter Tryz.func123, Tryz.ntmps123
  go_wp2_with (fail)
  all_goals go_ret
  all_goals clear f0 f1 f2 f3 f4 f5 f6 f7 g0 g1 g2 g3 g4 g5 g6 g7 p1 p2 p3
  all_goals
    refine RdPost.mk (by with_reducible repeat (first | exact h | apply RdAt.drew | apply RdAt.drewN | apply RdAt.set0 | apply RdAt.set2 | apply RdAt.set3 | apply RdAt.set4 | apply RdAt.set5 | apply RdAt.set7)) (by with_reducible repeat (first | exact Kept.refl _ _ | refine Kept.drew ?_ | refine Kept.drewN ?_ _ | refine Kept.setCell ?_ (by simp) _)) ?_
  all_goals clear h
  all_goals unfold withinF
  all_goals ((try simp only [beq_iff_eq, bne_iff_ne, beq_eq_false_iff_ne, bne_eq_false_iff_eq, ne_eq, Bool.not_eq_true, Bool.not_eq_false, Bool.or_eq_true, Bool.and_eq_true, decide_eq_true_eq, decide_eq_false_iff_not] at *); (repeat' split) <;> first | rfl | (exfalso; omega) | (simp_all; done) | (simp_all; omega))
end BD
end
section
namespace BD
def byteF (r : Rd) (c : UInt8) : Rd × Int :=
  if r.state = 2 then lineF r c
  else if r.state = 3 then (if c.toNat = 10 then beginsF { r with state := 4 } else (r, 180))
  else if r.state = 5 then isF r c.toNat 13 6
  else if r.state = 6 then isF r c.toNat 10 2
  else if r.state = 10 then isF r c.toNat 10 11
  else withinF r c

/-- Bounds on the numbers. -/
structure Rd.Bd (r : Rd) : Prop where
  m0 : 0 ≤ r.many
  m1 : r.many ≤ 300
  l0 : 0 ≤ r.lines
  l1 : r.lines ≤ 40
  f0 : 0 ≤ r.left
  f1 : r.left ≤ 16777216
  t0 : 0 ≤ r.told
  t1 : r.told ≤ 1048576
  n6 : r.state = 2 → r.many ≤ 6

theorem RdPost.up {b : Nat} {w w' : World} {res res' : Rd × Int} {e : Ending} (h : RdPost b w res e w') (hr : res = res') : RdPost b w res' e w' := hr ▸ h

theorem is_yes (b : Nat) (c want next : Int) (r : Rd) (w : World) (h : RdAt w b r) (hc : c = want) :
    Calls Tryz.prog 121 #[Ptr b, .int .u8 c, .int .u8 want, I next] w fun e w' => e = .returned (I 0) ∧ RdAt w' b { r with state := next } ∧ Kept [b] w w' :=
  (is_any b c want next r w h).mono fun e w' ⟨h1, h2, h3⟩ => by
    have hf : isF r c want next = ({ r with state := next }, 0) := by unfold isF; rw [if_pos hc]
    rw [hf] at h1 h2; exact ⟨h1, h2, h3⟩
theorem is_no (b : Nat) (c want next : Int) (r : Rd) (w : World) (h : RdAt w b r) (hc : ¬ c = want) :
    Calls Tryz.prog 121 #[Ptr b, .int .u8 c, .int .u8 want, I next] w fun e w' => e = .returned (I 180) ∧ RdAt w' b r ∧ Kept [b] w w' :=
  (is_any b c want next r w h).mono fun e w' ⟨h1, h2, h3⟩ => by
    have hf : isF r c want next = (r, 180) := by unfold isF; rw [if_neg hc]
    rw [hf] at h1 h2; exact ⟨h1, h2, h3⟩

set_option maxHeartbeats 1000000 in
theorem byte_any (b : Nat) (c : UInt8) (r : Rd) (w : World) (h : RdAt w b r) (hb : r.Bd) :
    Calls Tryz.prog 99 #[Ptr b, B c] w (RdPost b w (byteF r c)) := by
  obtain ⟨f0, f1, f2, f3, f4, f5, f6, f7⟩ := h.cells
  obtain ⟨g0, g1, g2, g3, g4, g5, g6, g7⟩ := h.free
  obtain ⟨p1, p2, p3⟩ := h.puts
  clear f1 f2 f3 f4 f5 f6 f7 g1 g2 g3 g4 g5 g6 g7 p1 p2 p3
  obtain ⟨m0, m1, l0, l1, e0, e1, t0, t1, n6⟩ := hb
  have N6 := Lib.hid n6
  clear n6
  by_cases h2 : r.state = 2
  · have k2 : (r.state == 2) = true := by simp [h2]
    have H2 := Lib.hid h2
    clear h2
    go_enter Tryz.func99, Tryz.ntmps99
    go_wp2_with (fail)
    refine (line_any b c r _ h m0 (N6.out H2.out) e0 e1).mono ?_
    rintro e w1 ⟨rfl, h1, q1⟩
    go_wp2_with (fail)
    go_ret
    exact RdPost.up (res := lineF r c) ⟨rfl, h1, q1⟩ (by unfold byteF; rw [if_pos H2.out])
  have k2 : (r.state == 2) = false := by simpa using h2
  by_cases h3 : r.state = 3
  · have k3 : (r.state == 3) = true := by simp [h3]
    have H2 := Lib.hid h2
    have H3 := Lib.hid h3
    clear h2 h3
    by_cases hc : (c.toNat : Int) = 10
    · have HC := Lib.hid hc
      clear hc
      go_enter Tryz.func99, Tryz.ntmps99
      go_wp2_with (fail)
      refine (is_yes b c.toNat 10 4 r _ h HC.out).mono ?_
      rintro e w1 ⟨rfl, h1, q1⟩
      go_wp2_with (fail)
      refine (begins_any b { r with state := 4 } _ h1 e0 e1 t0 t1).mono ?_
      rintro e w2 ⟨rfl, h2, q2⟩
      go_wp2_with (fail)
      go_ret
      exact RdPost.up (res := beginsF { r with state := 4 }) ⟨rfl, h2, q1.trans' q2⟩ (by unfold byteF; rw [if_neg H2.out, if_pos H3.out, if_pos (by have := HC.out; omega)])
    · have HC := Lib.hid hc
      clear hc
      go_enter Tryz.func99, Tryz.ntmps99
      go_wp2_with (fail)
      refine (is_no b c.toNat 10 4 r _ h HC.out).mono ?_
      rintro e w1 ⟨rfl, h1, q1⟩
      go_wp2_with (fail)
      go_ret
      exact RdPost.up (res := (r, 180)) ⟨rfl, h1, q1⟩ (by unfold byteF; rw [if_neg H2.out, if_pos H3.out, if_neg (by have := HC.out; omega)])
  have k3 : (r.state == 3) = false := by simpa using h3
  by_cases h5 : r.state = 5
  · have k5 : (r.state == 5) = true := by simp [h5]
    have HH : Hid (byteF r c = isF r c.toNat 13 6) := by unfold Hid byteF; rw [if_neg h2, if_neg h3, if_pos h5]
    clear h2 h3 h5
    go_enter Tryz.func99, Tryz.ntmps99
    go_wp2_with (fail)
    refine (is_any b c.toNat 13 6 r _ h).mono ?_
    rintro e w1 ⟨rfl, h1, q1⟩
    go_wp2_with (fail)
    go_ret
    exact RdPost.up (res := isF r c.toNat 13 6) ⟨rfl, h1, q1⟩ HH.out.symm
  have k5 : (r.state == 5) = false := by simpa using h5
  by_cases h6 : r.state = 6
  · have k6 : (r.state == 6) = true := by simp [h6]
    have HH : Hid (byteF r c = isF r c.toNat 10 2) := by unfold Hid byteF; rw [if_neg h2, if_neg h3, if_neg h5, if_pos h6]
    clear h2 h3 h5 h6
    go_enter Tryz.func99, Tryz.ntmps99
    go_wp2_with (fail)
    refine (is_any b c.toNat 10 2 r _ h).mono ?_
    rintro e w1 ⟨rfl, h1, q1⟩
    go_wp2_with (fail)
    go_ret
    exact RdPost.up (res := isF r c.toNat 10 2) ⟨rfl, h1, q1⟩ HH.out.symm
  have k6 : (r.state == 6) = false := by simpa using h6
  by_cases h10 : r.state = 10
  · have k10 : (r.state == 10) = true := by simp [h10]
    have HH : Hid (byteF r c = isF r c.toNat 10 11) := by unfold Hid byteF; rw [if_neg h2, if_neg h3, if_neg h5, if_neg h6, if_pos h10]
    clear h2 h3 h5 h6 h10
    go_enter Tryz.func99, Tryz.ntmps99
    go_wp2_with (fail)
    refine (is_any b c.toNat 10 11 r _ h).mono ?_
    rintro e w1 ⟨rfl, h1, q1⟩
    go_wp2_with (fail)
    go_ret
    exact RdPost.up (res := isF r c.toNat 10 11) ⟨rfl, h1, q1⟩ HH.out.symm
  have k10 : (r.state == 10) = false := by simpa using h10
  have HH : Hid (byteF r c = withinF r c) := by unfold Hid byteF; rw [if_neg h2, if_neg h3, if_neg h5, if_neg h6, if_neg h10]
  clear h2 h3 h5 h6 h10
  go_enter Tryz.func99, Tryz.ntmps99
  go_wp2_with (fail)
  refine (within_any b c r _ h m0 m1 l0 l1).mono ?_
  rintro e w1 ⟨rfl, h1, q1⟩
  go_wp2_with (fail)
  go_ret
  exact RdPost.up (res := withinF r c) ⟨rfl, h1, q1⟩ HH.out.symm
end BD
end
section
namespace BD
def someF (r : Rd) (n : Int) : Rd × Int × Int :=
  if r.state = 1 then (if n > 1048576 - r.told then (r, 0, 181) else (r, n, 0))
  else if r.left - min n r.left = 0 then ({ r with left := r.left - min n r.left, state := if r.state = 0 then 11 else 5 }, min n r.left, 0)
  else ({ r with left := r.left - min n r.left }, min n r.left, 0)
def SomePost (b : Nat) (w : World) (res : Rd × Int × Int) (e : Ending) (w' : World) : Prop := e = .returned (.tuple #[I res.2.1, I res.2.2]) ∧ RdAt w' b res.1 ∧ Kept [b] w w'
theorem SomePost.mk {b : Nat} {w w' : World} {res : Rd × Int × Int} {r' : Rd} {n k : Int} (h1 : RdAt w' b r') (h2 : Kept [b] w w') (h : res = (r', n, k)) : SomePost b w res (.returned (.tuple #[I n, I k])) w' := by
  subst h; exact ⟨rfl, h1, h2⟩

set_option maxHeartbeats 1000000 in
theorem some_any (b : Nat) (l : List UInt8) (r : Rd) (w : World) (h : RdAt w b r) (hb : r.Bd) (hn : (l.length : Int) ≤ 4611686018427387904) :
    Calls Tryz.prog 97 #[Ptr b, S l] w (SomePost b w (someF r l.length)) := by
  obtain ⟨f0, f1, f2, f3, f4, f5, f6, f7⟩ := h.cells
  obtain ⟨g0, g1, g2, g3, g4, g5, g6, g7⟩ := h.free
  obtain ⟨p1, p2, p3⟩ := h.puts
  clear f1 f3 f4 f6 f7 g1 g3 g4 g6 g7
  obtain ⟨m0, m1, l0, l1, e0, e1, t0, t1, n6⟩ := hb
  have hn0 : 0 ≤ (l.length : Int) := by omega
  by_cases h1 : r.state = 1
  · have k1 : (r.state == 1) = true := by simp [h1]
    have H1 := Lib.hid h1
    clear h1
    go_enter Tryz.func97, Tryz.ntmps97
    go_wp2_with (fail)
    all_goals go_ret2
    all_goals
      refine SomePost.mk (by with_reducible repeat (first | exact h | apply RdAt.drew | apply RdAt.drewN | apply RdAt.set0 | apply RdAt.set2 | apply RdAt.set3 | apply RdAt.set4 | apply RdAt.set5 | apply RdAt.set7)) (by with_reducible repeat (first | exact Kept.refl _ _ | refine Kept.drew ?_ | refine Kept.drewN ?_ _ | refine Kept.setCell ?_ (by simp) _)) ?_
    all_goals (have h1 := H1.out; unfold someF; (try simp only [beq_iff_eq, bne_iff_ne, beq_eq_false_iff_ne, bne_eq_false_iff_eq, ne_eq, Bool.not_eq_true, Bool.not_eq_false, Bool.or_eq_true, Bool.and_eq_true, decide_eq_true_eq, decide_eq_false_iff_not] at *); (repeat' split) <;> first | rfl | (exfalso; omega) | (simp_all; done) | (simp_all; omega))
  · have k1 : (r.state == 1) = false := by simpa using h1
    have H1 := Lib.hid h1
    clear h1
    go_enter Tryz.func97, Tryz.ntmps97
    go_wp2_with (fail)
    all_goals go_ret2
    all_goals
      refine SomePost.mk (by with_reducible repeat (first | exact h | apply RdAt.drew | apply RdAt.drewN | apply RdAt.set0 | apply RdAt.set2 | apply RdAt.set3 | apply RdAt.set4 | apply RdAt.set5 | apply RdAt.set7)) (by with_reducible repeat (first | exact Kept.refl _ _ | refine Kept.drew ?_ | refine Kept.drewN ?_ _ | refine Kept.setCell ?_ (by simp) _)) ?_
    all_goals (have h1 := H1.out; unfold someF; (try simp only [beq_iff_eq, bne_iff_ne, beq_eq_false_iff_ne, bne_eq_false_iff_eq, ne_eq, Bool.not_eq_true, Bool.not_eq_false, Bool.or_eq_true, Bool.and_eq_true, decide_eq_true_eq, decide_eq_false_iff_not] at *); (repeat' split) <;> first | rfl | (exfalso; omega) | (simp_all; done) | (simp_all; omega))
end BD
end
section
namespace BD
/-! ### The body, byte by byte -/
def feed (r : Rd) (c : UInt8) : Rd × List UInt8 × Int :=
  if r.state = 11 then ({ r with rest := r.rest ++ [c] }, [], 0)
  else if r.state = 1 then (if 1048576 ≤ r.told then (r, [], 181) else ({ r with told := r.told + 1 }, [c], 0))
  else if r.state = 0 then ({ r with left := r.left - 1, told := r.told + 1, state := if r.left = 1 then 11 else 0 }, [c], 0)
  else if r.state = 4 then ({ r with left := r.left - 1, told := r.told + 1, state := if r.left = 1 then 5 else 4 }, [c], 0)
  else ((byteF r c).1, [], (byteF r c).2)

def feeds : Rd → List UInt8 → Rd × List UInt8 × Int
  | r, [] => (r, [], 0)
  | r, c :: s =>
    if (feed r c).2.2 = 0 then
      (if (feeds (feed r c).1 s).2.2 = 0 then ((feeds (feed r c).1 s).1, (feed r c).2.1 ++ (feeds (feed r c).1 s).2.1, 0) else ((feeds (feed r c).1 s).1, [], (feeds (feed r c).1 s).2.2))
    else ((feed r c).1, [], (feed r c).2.2)

theorem feeds_nil (r : Rd) : feeds r [] = (r, [], 0) := rfl
theorem feeds_cons_ok {r r1 r2 : Rd} {c : UInt8} {s o1 o2 : List UInt8} (h1 : feed r c = (r1, o1, 0)) (h2 : feeds r1 s = (r2, o2, 0)) : feeds r (c :: s) = (r2, o1 ++ o2, 0) := by
  simp [feeds, h1, h2]
theorem feeds_cons_no {r r1 r2 : Rd} {c : UInt8} {s o1 o2 : List UInt8} {e : Int} (h1 : feed r c = (r1, o1, 0)) (h2 : feeds r1 s = (r2, o2, e)) (he : e ≠ 0) : feeds r (c :: s) = (r2, [], e) := by
  simp [feeds, h1, h2, he]
theorem feeds_cons_err {r r1 : Rd} {c : UInt8} {s o1 : List UInt8} {e : Int} (h1 : feed r c = (r1, o1, e)) (he : e ≠ 0) : feeds r (c :: s) = (r1, [], e) := by
  simp [feeds, h1, he]
theorem feeds_err_out (s : List UInt8) : ∀ r : Rd, (feeds r s).2.2 ≠ 0 → (feeds r s).2.1 = [] := by
  induction s with
  | nil => intro r h; simp [feeds] at h
  | cons c s ih =>
    intro r h
    simp only [feeds] at h ⊢
    split
    · rename_i h1
      simp only [h1, if_true] at h
      split
      · rename_i h2; simp [h2] at h
      · rfl
    · rfl
theorem feeds_append (a : List UInt8) : ∀ (r : Rd) (b : List UInt8), feeds r (a ++ b) =
    if (feeds r a).2.2 = 0 then (if (feeds (feeds r a).1 b).2.2 = 0 then ((feeds (feeds r a).1 b).1, (feeds r a).2.1 ++ (feeds (feeds r a).1 b).2.1, 0) else ((feeds (feeds r a).1 b).1, [], (feeds (feeds r a).1 b).2.2))
    else ((feeds r a).1, [], (feeds r a).2.2) := by
  induction a with
  | nil =>
    intro r b
    rw [feeds_nil]
    by_cases h : (feeds r b).2.2 = 0
    · simp only [List.nil_append, h, if_true]; rw [← h]
    · simp only [List.nil_append, h, if_true, if_false]; rw [← feeds_err_out b r h]
  | cons c a ih =>
    intro r b
    simp only [List.cons_append]
    by_cases h1 : (feed r c).2.2 = 0
    · have e1 : feed r c = ((feed r c).1, (feed r c).2.1, 0) := by rw [← h1]
      by_cases h2 : (feeds (feed r c).1 a).2.2 = 0
      · have e2 : feeds (feed r c).1 a = ((feeds (feed r c).1 a).1, (feeds (feed r c).1 a).2.1, 0) := by rw [← h2]
        have e3 := feeds_cons_ok e1 e2
        have i := ih (feed r c).1 b
        rw [if_pos h2] at i
        rw [e3]
        simp only [if_true]
        by_cases h4 : (feeds (feeds (feed r c).1 a).1 b).2.2 = 0
        · rw [if_pos h4] at i ⊢
          rw [feeds_cons_ok e1 i, List.append_assoc]
        · rw [if_neg h4] at i ⊢
          exact feeds_cons_no e1 i h4
      · have e2 : feeds (feed r c).1 a = ((feeds (feed r c).1 a).1, (feeds (feed r c).1 a).2.1, (feeds (feed r c).1 a).2.2) := rfl
        have e3 := feeds_cons_no e1 e2 h2
        have i := ih (feed r c).1 b
        rw [if_neg h2] at i
        rw [e3]
        simp only [h2, if_false]
        exact feeds_cons_no e1 i h2
    · have e1 : feed r c = ((feed r c).1, (feed r c).2.1, (feed r c).2.2) := rfl
      rw [feeds_cons_err e1 h1, feeds_cons_err e1 h1]
      simp [h1]
theorem feeds_go {r r1 r2 : Rd} {a b o1 o2 : List UInt8} {e : Int} (h1 : feeds r a = (r1, o1, 0)) (h2 : feeds r1 b = (r2, o2, e)) : feeds r (a ++ b) = (r2, if e = 0 then o1 ++ o2 else [], e) := by
  rw [feeds_append, h1]
  simp only [if_true, h2]
  split
  · rename_i h; simp [h]
  · rfl
theorem feeds_open (s : List UInt8) : ∀ (r : Rd), r.state = 1 → 0 ≤ r.told → r.told ≤ 1048576 →
    feeds r s = if r.told + s.length ≤ 1048576 then ({ r with told := r.told + s.length }, s, 0) else ({ r with told := 1048576 }, [], 181) := by
  induction s with
  | nil => intro r h1 h2 h3; simp [feeds, h3]
  | cons c s ih =>
    intro r h1 h2 h3
    by_cases h4 : 1048576 ≤ r.told
    · have e1 : feed r c = (r, [], 181) := by simp [feed, h1, h4]
      rw [feeds_cons_err e1 (by decide), if_neg (by simp; omega)]
      have : r.told = 1048576 := by omega
      rw [← this]
    · have e1 : feed r c = ({ r with told := r.told + 1 }, [c], 0) := by simp [feed, h1, h4]
      have i := ih { r with told := r.told + 1 } h1 (by simp; omega) (by simp; omega)
      simp only at i
      by_cases h5 : r.told + 1 + s.length ≤ 1048576
      · rw [if_pos h5] at i
        rw [feeds_cons_ok e1 i, if_pos (by simp; omega)]
        simp only [List.length_cons, List.singleton_append, Prod.mk.injEq, Rd.mk.injEq, true_and, and_true]
        omega
      · rw [if_neg h5] at i
        rw [feeds_cons_no e1 i (by decide), if_neg (by simp; omega)]
theorem feeds_some (st : Int) (s : List UInt8) : ∀ (r : Rd), r.state = st → (st = 0 ∨ st = 4) → 0 < r.left → s ≠ [] → (s.length : Int) ≤ r.left →
    feeds r s = ({ r with left := r.left - s.length, told := r.told + s.length, state := if r.left - s.length = 0 then (if r.state = 0 then 11 else 5) else r.state }, s, 0) := by
  induction s with
  | nil => intro r _ _ _ h; exact absurd rfl h
  | cons c s ih =>
    intro r h1 h2 h3 h4 h5
    simp only [List.length_cons] at h5
    have e1 : feed r c = ({ r with left := r.left - 1, told := r.told + 1, state := if r.left = 1 then (if r.state = 0 then 11 else 5) else r.state }, [c], 0) := by
      subst h1
      rcases h2 with h2 | h2 <;> simp [feed, h2]
    by_cases hs : s = []
    · subst hs
      rw [feeds_cons_ok e1 (feeds_nil _)]
      simp only [List.length_cons, List.length_nil, List.append_nil, Prod.mk.injEq, Rd.mk.injEq, true_and, and_true]
      refine ⟨?_, by omega, by omega⟩
      by_cases h6 : r.left = 1
      · have h7 : r.left - ((0 + 1 : Nat) : Int) = 0 := by omega
        rw [if_pos h6, if_pos h7]
      · have h7 : ¬ r.left - ((0 + 1 : Nat) : Int) = 0 := by omega
        rw [if_neg h6, if_neg h7]
    · have hl : 0 < s.length := List.length_pos_iff.2 hs
      have i := ih { r with left := r.left - 1, told := r.told + 1, state := if r.left = 1 then (if r.state = 0 then 11 else 5) else r.state }
        (by simp only; rw [if_neg (by omega)]; exact h1) h2 (by simp only; omega) hs (by simp only; omega)
      rw [feeds_cons_ok e1 i]
      have h7 : ¬ r.left = 1 := by omega
      simp only [h7, if_false, List.length_cons, List.singleton_append, Prod.mk.injEq, Rd.mk.injEq, true_and, and_true]
      refine ⟨?_, by omega, by omega⟩
      by_cases h6 : r.left - 1 - (s.length : Int) = 0
      · have h8 : r.left - ((s.length + 1 : Nat) : Int) = 0 := by omega
        rw [if_pos h6, if_pos h8]
      · have h8 : ¬ r.left - ((s.length + 1 : Nat) : Int) = 0 := by omega
        rw [if_neg h6, if_neg h8]
theorem feeds_done (s : List UInt8) : ∀ (r : Rd), r.state = 11 → feeds r s = ({ r with rest := r.rest ++ s }, [], 0) := by
  induction s with
  | nil => intro r _; simp [feeds]
  | cons c s ih =>
    intro r h
    have e1 : feed r c = ({ r with rest := r.rest ++ [c] }, [], 0) := by simp [feed, h]
    rw [feeds_cons_ok e1 (ih _ h)]
    simp

def lim (m : Int) : Int := if m ≤ 0 then 0 else if m = 1 then 15 else if m = 2 then 255 else if m = 3 then 4095 else if m = 4 then 65535 else if m = 5 then 1048575 else 16777215
structure Rd.Inv (r : Rd) : Prop where
  m0 : 0 ≤ r.many
  m1 : r.many ≤ 256
  l0 : 0 ≤ r.lines
  l1 : r.lines ≤ 32
  f0 : 0 ≤ r.left
  f1 : r.left ≤ 16777215
  t0 : 0 ≤ r.told
  t1 : r.told ≤ 1048576
  n6 : r.state = 2 → r.many ≤ 6 ∧ r.left ≤ lim r.many
  w : r.state = 0 ∨ r.state = 4 → 0 < r.left ∧ r.told + r.left ≤ 1048576
  z : r.state = 5 ∨ r.state = 6 → r.left = 0
  y : r.state = 4 ∨ r.state = 5 ∨ r.state = 6 → r.many = 0
theorem Rd.Inv.bd {r : Rd} (h : r.Inv) : r.Bd := ⟨h.m0, by have := h.m1; omega, h.l0, by have := h.l1; omega, h.f0, by have := h.f1; omega, h.t0, h.t1, fun e => (h.n6 e).1⟩
theorem lim_succ (m : Int) (h0 : 0 ≤ m) (h : m < 6) : 16 * lim m + 15 = lim (m + 1) := by
  have : m = 0 ∨ m = 1 ∨ m = 2 ∨ m = 3 ∨ m = 4 ∨ m = 5 := by omega
  rcases this with h | h | h | h | h | h <;> subst h <;> decide
theorem lim_le (m : Int) : lim m ≤ 16777215 := by unfold lim; (repeat' split) <;> omega
theorem lim_zero : lim 0 = 0 := rfl
theorem inv_mk (r r' : Rd) (st : Int) (hs : r'.state = st) (m0 : 0 ≤ r'.many) (m1 : r'.many ≤ 256) (l0 : 0 ≤ r'.lines) (l1 : r'.lines ≤ 32) (f0 : 0 ≤ r'.left) (f1 : r'.left ≤ 16777215)
    (t0 : 0 ≤ r'.told) (t1 : r'.told ≤ 1048576) (n6 : st = 2 → r'.many ≤ 6 ∧ r'.left ≤ lim r'.many) (w : st = 0 ∨ st = 4 → 0 < r'.left ∧ r'.told + r'.left ≤ 1048576)
    (z : st = 5 ∨ st = 6 → r'.left = 0) (y : st = 4 ∨ st = 5 ∨ st = 6 → r'.many = 0) : r'.Inv := by
  subst hs; exact ⟨m0, m1, l0, l1, f0, f1, t0, t1, n6, w, z, y⟩
theorem inv_line {r : Rd} (h : r.Inv) (h2 : r.state = 2) (c : UInt8) (he : (lineF r c).2 = 0) : (lineF r c).1.Inv := by
  obtain ⟨m0, m1, l0, l1, f0, f1, t0, t1, n6, hw, hz, hy⟩ := h
  have ⟨g1, g2⟩ := n6 h2
  unfold lineF at he ⊢
  by_cases h5 : c.toNat = 13 ∧ 0 < r.many
  · rw [if_pos h5]
    exact inv_mk r _ 3 rfl m0 m1 l0 l1 f0 f1 t0 t1 (by omega) (by omega) (by omega) (by omega)
  · rw [if_neg h5] at he ⊢
    by_cases h6 : digitF c < 0 ∨ r.many = 6
    · rw [if_pos h6] at he; simp at he
    · rw [if_neg h6]
      have d := digitF_le c
      have e := lim_succ r.many m0 (by omega)
      have e2 := lim_le (r.many + 1)
      refine inv_mk r _ 2 h2 ?_ ?_ l0 l1 ?_ ?_ t0 t1 ?_ (by omega) (by omega) (by omega) <;> simp only <;> omega
theorem inv_is {r : Rd} (h : r.Inv) (c a b : Int) (hb : b = 6 ∧ r.state = 5 ∨ b = 11 ∨ b = 2 ∧ r.state = 6) (hi : (isF r c a b).2 = 0) : (isF r c a b).1.Inv := by
  obtain ⟨m0, m1, l0, l1, f0, f1, t0, t1, n6, hw, hz, hy⟩ := h
  unfold isF at hi ⊢
  by_cases hc : c = a
  · rw [if_pos hc]
    refine inv_mk r _ b rfl m0 m1 l0 l1 f0 f1 t0 t1 ?_ ?_ ?_ ?_ <;> simp only
    · intro h2
      have e1 : r.left = 0 := hz (by omega)
      have e2 : r.many = 0 := hy (by omega)
      rw [e1, e2, lim_zero]; omega
    · omega
    · intro h2; exact hz (by omega)
    · intro h2; exact hy (by omega)
  · rw [if_neg hc] at hi; simp at hi
theorem inv_within {r : Rd} (h : r.Inv) (hs : r.state = 7 ∨ r.state = 8 ∨ r.state = 9) (c : UInt8) (he : (withinF r c).2 = 0) : (withinF r c).1.Inv := by
  obtain ⟨m0, m1, l0, l1, f0, f1, t0, t1, n6, hw, hz, hy⟩ := h
  unfold withinF at he ⊢
  simp only at he ⊢
  by_cases h1 : c.toNat = 13 ∧ r.state = 7
  · rw [if_pos h1]; exact inv_mk r _ 10 rfl m0 m1 l0 l1 f0 f1 t0 t1 (by omega) (by omega) (by omega) (by omega)
  rw [if_neg h1] at he ⊢
  by_cases h2 : r.state = 7
  · rw [if_pos h2] at he ⊢
    by_cases h3 : r.lines + 1 > 32
    · rw [if_pos h3] at he; simp at he
    rw [if_neg h3] at he ⊢
    by_cases h4 : c.toNat = 13
    · rw [if_pos h4]
      refine inv_mk r _ 9 rfl (by simp) (by simp) ?_ ?_ f0 f1 t0 t1 (by omega) (by omega) (by omega) (by omega) <;> simp only <;> omega
    · rw [if_neg h4]
      refine inv_mk r _ 8 rfl (by simp) (by simp) ?_ ?_ f0 f1 t0 t1 (by omega) (by omega) (by omega) (by omega) <;> simp only <;> omega
  rw [if_neg h2] at he ⊢
  by_cases h3 : c.toNat = 10 ∧ r.state = 9
  · rw [if_pos h3]; exact inv_mk r _ 7 rfl m0 m1 l0 l1 f0 f1 t0 t1 (by omega) (by omega) (by omega) (by omega)
  rw [if_neg h3] at he ⊢
  have hm : 0 ≤ (if r.state = 9 then r.many + 1 else r.many) := by split <;> omega
  by_cases h4 : c.toNat = 13
  · rw [if_pos h4] at he ⊢
    simp only at he
    have hm2 : (if r.state = 9 then r.many + 1 else r.many) ≤ 256 := by
      by_cases h5 : (if r.state = 9 then r.many + 1 else r.many) > 256
      · rw [if_pos h5] at he; omega
      · omega
    exact inv_mk r _ 9 rfl hm hm2 l0 l1 f0 f1 t0 t1 (by omega) (by omega) (by omega) (by omega)
  · rw [if_neg h4] at he ⊢
    simp only at he
    have hm2 : (if r.state = 9 then r.many + 1 else r.many) + 1 ≤ 256 := by
      by_cases h5 : (if r.state = 9 then r.many + 1 else r.many) + 1 > 256
      · rw [if_pos h5] at he; omega
      · omega
    exact inv_mk r _ 8 rfl (by simp only; omega) hm2 l0 l1 f0 f1 t0 t1 (by omega) (by omega) (by omega) (by omega)
theorem inv_feed {r : Rd} (h : r.Inv) (hst : 0 ≤ r.state ∧ r.state ≤ 11) (c : UInt8) (he : (feed r c).2.2 = 0) : (feed r c).1.Inv := by
  have H := h
  obtain ⟨m0, m1, l0, l1, f0, f1, t0, t1, n6, hw, hz, hy⟩ := h
  unfold feed at he ⊢
  by_cases h11 : r.state = 11
  · rw [if_pos h11]; exact inv_mk r _ 11 h11 m0 m1 l0 l1 f0 f1 t0 t1 (by omega) (by omega) (by omega) (by omega)
  rw [if_neg h11] at he ⊢
  by_cases h1 : r.state = 1
  · rw [if_pos h1] at he ⊢
    by_cases h2 : 1048576 ≤ r.told
    · rw [if_pos h2] at he; simp at he
    · rw [if_neg h2]
      refine inv_mk r _ 1 h1 m0 m1 l0 l1 f0 f1 ?_ ?_ (by omega) (by omega) (by omega) (by omega) <;> simp only <;> omega
  rw [if_neg h1] at he ⊢
  by_cases h0 : r.state = 0
  · rw [if_pos h0]
    have := hw (.inl h0)
    refine inv_mk r _ (if r.left = 1 then 11 else 0) rfl m0 m1 l0 l1 ?_ ?_ ?_ ?_ ?_ ?_ ?_ ?_ <;> simp only
    · omega
    · omega
    · omega
    · omega
    · split <;> (intro h; omega)
    · split <;> (intro h; omega)
    · split <;> (intro h; omega)
    · split <;> (intro h; omega)
  rw [if_neg h0] at he ⊢
  by_cases h4 : r.state = 4
  · rw [if_pos h4]
    have := hw (.inr h4)
    have := hy (.inl h4)
    refine inv_mk r _ (if r.left = 1 then 5 else 4) rfl m0 m1 l0 l1 ?_ ?_ ?_ ?_ ?_ ?_ ?_ ?_ <;> simp only
    · omega
    · omega
    · omega
    · omega
    · split <;> (intro h; omega)
    · split <;> (intro h; omega)
    · split <;> (intro h; omega)
    · split <;> (intro h; omega)
  rw [if_neg h4] at he ⊢
  simp only at he ⊢
  unfold byteF at he ⊢
  by_cases h2 : r.state = 2
  · rw [if_pos h2] at he ⊢; exact inv_line H h2 c he
  rw [if_neg h2] at he ⊢
  by_cases h3 : r.state = 3
  · rw [if_pos h3] at he ⊢
    by_cases h5 : c.toNat = 10
    · rw [if_pos h5] at he ⊢
      unfold beginsF at he ⊢
      simp only at he ⊢
      by_cases h6 : r.left = 0
      · rw [if_pos h6]
        exact inv_mk r _ 7 rfl (by simp) (by simp) l0 l1 f0 f1 t0 t1 (by omega) (by omega) (by omega) (by omega)
      · rw [if_neg h6] at he ⊢
        by_cases h7 : r.left > 1048576 - r.told
        · rw [if_pos h7] at he; simp at he
        · rw [if_neg h7]
          refine inv_mk r _ 4 rfl (by simp) (by simp) l0 l1 f0 f1 t0 t1 (by omega) (fun _ => ?_) (by omega) (fun _ => rfl)
          simp only
          omega
    · rw [if_neg h5] at he; simp at he
  rw [if_neg h3] at he ⊢
  by_cases h5 : r.state = 5
  · rw [if_pos h5] at he ⊢; exact inv_is H _ _ _ (.inl ⟨rfl, h5⟩) he
  rw [if_neg h5] at he ⊢
  by_cases h6 : r.state = 6
  · rw [if_pos h6] at he ⊢; exact inv_is H _ _ _ (.inr (.inr ⟨rfl, h6⟩)) he
  rw [if_neg h6] at he ⊢
  by_cases h10 : r.state = 10
  · rw [if_pos h10] at he ⊢; exact inv_is H _ _ _ (.inr (.inl rfl)) he
  rw [if_neg h10] at he ⊢
  exact inv_within H (by omega) c he
theorem ite_ind {α : Type} {P : α → Prop} {c : Prop} [Decidable c] {a b : α} (h1 : c → P a) (h2 : ¬ c → P b) : P (if c then a else b) := by
  by_cases h : c
  · rw [if_pos h]; exact h1 h
  · rw [if_neg h]; exact h2 h
/-- What a byte that is none of the body leaves. -/
def ByteOk (r : Rd) (x : Rd × Int) : Prop := (0 ≤ r.state ∧ r.state ≤ 11 → 0 ≤ x.1.state ∧ x.1.state ≤ 11) ∧ x.1.size = r.size ∧ x.1.e = r.e ∧ x.1.told = r.told ∧ x.1.rest = r.rest
theorem byte_ok (r : Rd) (c : UInt8) : ByteOk r (byteF r c) := by
  unfold byteF lineF beginsF isF withinF
  simp only
  repeat' (refine ite_ind (P := ByteOk r) (fun _ => ?_) (fun _ => ?_))
  all_goals exact ⟨fun h => by (try simp only); omega, rfl, rfl, rfl, rfl⟩
theorem state_byte {r : Rd} (h : 0 ≤ r.state ∧ r.state ≤ 11) (c : UInt8) : 0 ≤ (byteF r c).1.state ∧ (byteF r c).1.state ≤ 11 := (byte_ok r c).1 h
theorem keeps_byte (r : Rd) (c : UInt8) : (byteF r c).1.size = r.size ∧ (byteF r c).1.e = r.e ∧ (byteF r c).1.told = r.told ∧ (byteF r c).1.rest = r.rest := (byte_ok r c).2
theorem state_feed {r : Rd} (h : 0 ≤ r.state ∧ r.state ≤ 11) (c : UInt8) : 0 ≤ (feed r c).1.state ∧ (feed r c).1.state ≤ 11 := by
  have k := state_byte h c
  unfold feed
  constructor <;> (repeat' split) <;> (try simp only) <;> omega
theorem keeps_feed (r : Rd) (c : UInt8) : (feed r c).1.size = r.size ∧ (feed r c).1.e = r.e := by
  have k := keeps_byte r c
  unfold feed
  refine ⟨?_, ?_⟩ <;> (repeat' split) <;> first | rfl | exact k.1 | exact k.2.1
theorem inv_feeds (s : List UInt8) : ∀ {r : Rd}, r.Inv → (0 ≤ r.state ∧ r.state ≤ 11) → (feeds r s).2.2 = 0 → (feeds r s).1.Inv ∧ 0 ≤ (feeds r s).1.state ∧ (feeds r s).1.state ≤ 11 := by
  induction s with
  | nil => intro r h hs _; exact ⟨h, hs⟩
  | cons c s ih =>
    intro r h hs he
    simp only [feeds] at he ⊢
    by_cases h1 : (feed r c).2.2 = 0
    · rw [if_pos h1] at he ⊢
      by_cases h2 : (feeds (feed r c).1 s).2.2 = 0
      · rw [if_pos h2]
        exact ih (inv_feed h hs c h1) (state_feed hs c) h2
      · rw [if_neg h2] at he; exact absurd he h2
    · rw [if_neg h1] at he; exact absurd he h1
theorem keeps_feeds (s : List UInt8) : ∀ (r : Rd), (feeds r s).1.size = r.size ∧ (feeds r s).1.e = r.e := by
  induction s with
  | nil => intro r; exact ⟨rfl, rfl⟩
  | cons c s ih =>
    intro r
    have k := keeps_feed r c
    have i := ih (feed r c).1
    simp only [feeds]
    by_cases h1 : (feed r c).2.2 = 0
    · rw [if_pos h1]
      split <;> exact ⟨i.1.trans k.1, i.2.trans k.2⟩
    · rw [if_neg h1]; exact k
/-- What 'goes' makes of bytes. -/
def goesF (r : Rd) (l : List UInt8) : Rd × List UInt8 × Int :=
  if (feeds r l).2.2 = 0 then feeds r l else ({ (feeds r l).1 with told := r.told }, [], (feeds r l).2.2)
end BD
end
end Go.Proofs.YtgdncdhalnijcaaGreatDoor
