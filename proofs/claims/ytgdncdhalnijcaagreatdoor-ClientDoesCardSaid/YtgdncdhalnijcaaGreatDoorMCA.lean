/- Walks and lemmas on the program of this seat, used by its statements; each theorem bears its own conditions. -/
import Derived.Test.YtgdncdhalnijcaaGreatDoorMHL
import Derived.Test.YtgdncdhalnijcaaGreatDoorMRL
import Derived.Handy
import Derived.Recover
import Derived.IntWalk
import Derived.Deep.CutRange
import Derived.OwnWalk
import Derived.Deep.AppendLies
import Derived.Deep.RegionLaw
import Derived.Deep.RegionHeld3
import Derived.StillTailTactics
import Derived.RegionTactic
import Derived.ChangeAlike
namespace Go.Proofs.YtgdncdhalnijcaaGreatDoor
open Go.RowKit
set_option linter.unusedVariables false
set_option linter.unusedSimpArgs false
section
namespace CL
set_option maxHeartbeats 8000000
set_option maxRecDepth 100000
/-! ### The client in memory -/
structure Cl where
  host : List UInt8
  target : List UInt8
  frm : Int
  limit : Int
  tmo : Int
  trs : Int
  wt : Int
  state : Int
  e : Int
  got : Int
  total : Int
  now : Int
  tries : Int
  wait : Int
  wake : Int
  began : Int
  last : Int
  head : List UInt8
  body : Option BD.Rd
  skip : Int
  left : Int
def Cl.bv (c : Cl) (bb : Nat) : Value := match c.body with | none => .pointer none | some _ => Ptr bb
def Cl.arr (c : Cl) (v : Value) : Array Value := #[S c.host, S c.target, I c.frm, I c.limit, I c.tmo, I c.trs, I c.wt, I c.state, I c.e, I c.got, I c.total, I c.now, I c.tries, I c.wait, I c.wake, I c.began, I c.last, S c.head, v, I c.skip, I c.left]
def Cl.obj (c : Cl) (bb : Nat) : Obj := .cells (c.arr (c.bv bb)) 60 (0, 0)
structure ClAt (w : World) (b bb : Nat) (c : Cl) : Prop where
  blk : w.heap[b]? = some (c.obj bb)
  rd : ∀ r, c.body = some r → BD.RdAt w bb r
  ne : c.body.isSome = true → bb ≠ b
theorem isSome_of {α : Type} {o : Option α} {x : α} (h : o = some x) : o.isSome = true := by rw [h]; rfl
theorem ofBD {S' : List Nat} {w w' : World} (k : BD.Kept S' w w') : Kept S' w w' := ⟨k.os, k.tape, k.output, k.size, k.block⟩
theorem toBD {S' : List Nat} {w w' : World} (k : Kept S' w w') : BD.Kept S' w w' := ⟨k.os, k.tape, k.output, k.size, k.block⟩
section
variable {w : World} {b bb : Nat} {c : Cl}
theorem ClAt.lt (h : ClAt w b bb c) : b < w.heap.size := lt_of_block h.blk
theorem ClAt.kept {w' : World} {T : List Nat} (h : ClAt w b bb c) (k : Kept T w w') (h1 : b ∉ T) (h2 : bb ∉ T) : ClAt w' b bb c :=
  ⟨k.at h.blk h1, fun r hr => k.at (h.rd r hr) h2, h.ne⟩
theorem ClAt.drew (h : ClAt w b bb c) : ClAt w.drew b bb c := ⟨h.blk, h.rd, h.ne⟩
theorem ClAt.drewN (h : ClAt w b bb c) (n : Nat) : ClAt (w.drewN n) b bb c := ⟨h.blk, h.rd, h.ne⟩
theorem ClAt.free (h : ClAt w b bb c) (i : Nat) : w.frozen? ⟨b, i, none⟩ = false := free_at h.blk i
theorem ClAt.cells (h : ClAt w b bb c) : w.cell? ⟨b, 0, none⟩ = some (S c.host) ∧ w.cell? ⟨b, 1, none⟩ = some (S c.target) ∧ w.cell? ⟨b, 2, none⟩ = some (I c.frm) ∧ w.cell? ⟨b, 3, none⟩ = some (I c.limit) ∧ w.cell? ⟨b, 4, none⟩ = some (I c.tmo) ∧ w.cell? ⟨b, 5, none⟩ = some (I c.trs) ∧ w.cell? ⟨b, 6, none⟩ = some (I c.wt) ∧ w.cell? ⟨b, 7, none⟩ = some (I c.state) ∧ w.cell? ⟨b, 8, none⟩ = some (I c.e) ∧ w.cell? ⟨b, 9, none⟩ = some (I c.got) ∧ w.cell? ⟨b, 10, none⟩ = some (I c.total) ∧ w.cell? ⟨b, 11, none⟩ = some (I c.now) ∧ w.cell? ⟨b, 12, none⟩ = some (I c.tries) ∧ w.cell? ⟨b, 13, none⟩ = some (I c.wait) ∧ w.cell? ⟨b, 14, none⟩ = some (I c.wake) ∧ w.cell? ⟨b, 15, none⟩ = some (I c.began) ∧ w.cell? ⟨b, 16, none⟩ = some (I c.last) ∧ w.cell? ⟨b, 17, none⟩ = some (S c.head) ∧ w.cell? ⟨b, 18, none⟩ = some (c.bv bb) ∧ w.cell? ⟨b, 19, none⟩ = some (I c.skip) ∧ w.cell? ⟨b, 20, none⟩ = some (I c.left) := by
  have hb := h.blk
  unfold Cl.obj Cl.arr at hb
  refine ⟨by rw [cell_at hb]; rfl, by rw [cell_at hb]; rfl, by rw [cell_at hb]; rfl, by rw [cell_at hb]; rfl, by rw [cell_at hb]; rfl, by rw [cell_at hb]; rfl, by rw [cell_at hb]; rfl, by rw [cell_at hb]; rfl, by rw [cell_at hb]; rfl, by rw [cell_at hb]; rfl, by rw [cell_at hb]; rfl, by rw [cell_at hb]; rfl, by rw [cell_at hb]; rfl, by rw [cell_at hb]; rfl, by rw [cell_at hb]; rfl, by rw [cell_at hb]; rfl, by rw [cell_at hb]; rfl, by rw [cell_at hb]; rfl, by rw [cell_at hb]; rfl, by rw [cell_at hb]; rfl, by rw [cell_at hb]; rfl⟩
theorem set_other {w : World} {b k i : Nat} {v : Value} (h : k ≠ b) : (w.setCell ⟨b, i, none⟩ v).heap[k]? = w.heap[k]? := by
  exact Below.heap_setCell _ _ _ _ h
theorem ClAt.set7 (h : ClAt w b bb c) (x : Int) : ClAt (w.setCell ⟨b, 7, none⟩ (I x)) b bb { c with state := x } :=
  ⟨heap_setCell_at h.blk 7 _, fun r hr => (set_other (h.ne (isSome_of hr))).trans (h.rd r hr), h.ne⟩
theorem ClAt.set8 (h : ClAt w b bb c) (x : Int) : ClAt (w.setCell ⟨b, 8, none⟩ (I x)) b bb { c with e := x } :=
  ⟨heap_setCell_at h.blk 8 _, fun r hr => (set_other (h.ne (isSome_of hr))).trans (h.rd r hr), h.ne⟩
theorem ClAt.set9 (h : ClAt w b bb c) (x : Int) : ClAt (w.setCell ⟨b, 9, none⟩ (I x)) b bb { c with got := x } :=
  ⟨heap_setCell_at h.blk 9 _, fun r hr => (set_other (h.ne (isSome_of hr))).trans (h.rd r hr), h.ne⟩
theorem ClAt.set10 (h : ClAt w b bb c) (x : Int) : ClAt (w.setCell ⟨b, 10, none⟩ (I x)) b bb { c with total := x } :=
  ⟨heap_setCell_at h.blk 10 _, fun r hr => (set_other (h.ne (isSome_of hr))).trans (h.rd r hr), h.ne⟩
theorem ClAt.set11 (h : ClAt w b bb c) (x : Int) : ClAt (w.setCell ⟨b, 11, none⟩ (I x)) b bb { c with now := x } :=
  ⟨heap_setCell_at h.blk 11 _, fun r hr => (set_other (h.ne (isSome_of hr))).trans (h.rd r hr), h.ne⟩
theorem ClAt.set12 (h : ClAt w b bb c) (x : Int) : ClAt (w.setCell ⟨b, 12, none⟩ (I x)) b bb { c with tries := x } :=
  ⟨heap_setCell_at h.blk 12 _, fun r hr => (set_other (h.ne (isSome_of hr))).trans (h.rd r hr), h.ne⟩
theorem ClAt.set13 (h : ClAt w b bb c) (x : Int) : ClAt (w.setCell ⟨b, 13, none⟩ (I x)) b bb { c with wait := x } :=
  ⟨heap_setCell_at h.blk 13 _, fun r hr => (set_other (h.ne (isSome_of hr))).trans (h.rd r hr), h.ne⟩
theorem ClAt.set14 (h : ClAt w b bb c) (x : Int) : ClAt (w.setCell ⟨b, 14, none⟩ (I x)) b bb { c with wake := x } :=
  ⟨heap_setCell_at h.blk 14 _, fun r hr => (set_other (h.ne (isSome_of hr))).trans (h.rd r hr), h.ne⟩
theorem ClAt.set15 (h : ClAt w b bb c) (x : Int) : ClAt (w.setCell ⟨b, 15, none⟩ (I x)) b bb { c with began := x } :=
  ⟨heap_setCell_at h.blk 15 _, fun r hr => (set_other (h.ne (isSome_of hr))).trans (h.rd r hr), h.ne⟩
theorem ClAt.set16 (h : ClAt w b bb c) (x : Int) : ClAt (w.setCell ⟨b, 16, none⟩ (I x)) b bb { c with last := x } :=
  ⟨heap_setCell_at h.blk 16 _, fun r hr => (set_other (h.ne (isSome_of hr))).trans (h.rd r hr), h.ne⟩
theorem ClAt.set17 (h : ClAt w b bb c) (x : List UInt8) : ClAt (w.setCell ⟨b, 17, none⟩ (S x)) b bb { c with head := x } :=
  ⟨heap_setCell_at h.blk 17 _, fun r hr => (set_other (h.ne (isSome_of hr))).trans (h.rd r hr), h.ne⟩
theorem ClAt.set19 (h : ClAt w b bb c) (x : Int) : ClAt (w.setCell ⟨b, 19, none⟩ (I x)) b bb { c with skip := x } :=
  ⟨heap_setCell_at h.blk 19 _, fun r hr => (set_other (h.ne (isSome_of hr))).trans (h.rd r hr), h.ne⟩
theorem ClAt.set20 (h : ClAt w b bb c) (x : Int) : ClAt (w.setCell ⟨b, 20, none⟩ (I x)) b bb { c with left := x } :=
  ⟨heap_setCell_at h.blk 20 _, fun r hr => (set_other (h.ne (isSome_of hr))).trans (h.rd r hr), h.ne⟩
theorem ClAt.set18n (h : ClAt w b bb c) : ClAt (w.setCell ⟨b, 18, none⟩ (.pointer none)) b bb { c with body := none } :=
  ⟨heap_setCell_at h.blk 18 _, fun r hr => (by cases hr), fun e => (by cases e)⟩
theorem ClAt.set18 {b2 : Nat} {r : BD.Rd} (h : ClAt w b bb c) (hr : BD.RdAt w b2 r) (hn : b2 ≠ b) : ClAt (w.setCell ⟨b, 18, none⟩ (Ptr b2)) b b2 { c with body := some r } :=
  ⟨heap_setCell_at h.blk 18 _, fun r' hr' => by injection hr' with e; subst e; exact (set_other hn).trans hr, fun _ => hn⟩
/-- The reader turns: its block alone. -/
theorem ClAt.body {w' : World} {r : BD.Rd} (h : ClAt w b bb c) (hb : (c.body).isSome = true) (k : BD.Kept [bb] w w') (hr : BD.RdAt w' bb r) : ClAt w' b bb { c with body := some r } := by
  refine ⟨?_, fun r' hr' => by injection hr' with e; subst e; exact hr, fun _ => h.ne hb⟩
  have h1 := (ofBD k).at h.blk (by simp; exact fun e => h.ne hb e.symm)
  rw [h1]
  unfold Cl.obj Cl.bv
  cases hc : c.body with
  | none => rw [hc] at hb; cases hb
  | some _ => rfl
end
def ClPost (v : Value) (b bb : Nat) (w : World) (c : Cl) (e : Ending) (w' : World) : Prop := e = .returned v ∧ ClAt w' b bb c ∧ Kept [b, bb] w w'
theorem ClPost.mk {v : Value} {b bb : Nat} {w w' : World} {c c' : Cl} (h : ClAt w' b bb c) (k : Kept [b, bb] w w') (e : c' = c) : ClPost v b bb w c' (.returned v) w' := by subst e; exact ⟨rfl, h, k⟩
/-! ### What the client does: pure -/
def failsF (c : Cl) (e : Int) : Cl := { c with state := 4, e := e }
def lose1 (c : Cl) : Cl := if c.began < c.got then { c with tries := c.trs, wait := c.wt } else c
def lose2 (c : Cl) : Cl := if c.tries = 0 then failsF c 194 else { c with state := 2, wake := c.now + c.wait, wait := min (2 * c.wait) 64000 }
def losesF (c : Cl) : Cl := lose2 { lose1 c with tries := (lose1 c).tries - 1 }
def tick1 (c : Cl) (n : Int) : Cl := { c with now := min 1099511627776 (c.now + min n 1099511627776) }
def tick2 (c : Cl) : Cl := if c.state = 2 ∧ c.wake ≤ c.now then { c with state := 0 } else if c.state = 1 ∧ c.tmo ≤ c.now - c.last then losesF c else c
def tickF (c : Cl) (n : Int) : Cl := if n < 1 then c else tick2 (tick1 c n)
def ends1 (c : Cl) : Cl := if c.total < 0 then { c with total := c.got } else c
def endsF (c : Cl) : Cl := if 0 < c.skip then failsF c 192 else if (ends1 c).got = (ends1 c).total then { ends1 c with state := 3 } else losesF (ends1 c)
/-- What any client keeps. -/
structure Cl.Bd (c : Cl) : Prop where
  f0 : 0 ≤ c.frm
  f1 : c.frm ≤ c.limit
  l1 : c.limit ≤ 1048576
  t0 : 1 ≤ c.tmo
  t1 : c.tmo ≤ 1000
  r0 : 1 ≤ c.trs
  r1 : c.trs ≤ 16
  w0 : 1 ≤ c.wt
  w1 : c.wt ≤ 1000
  g0 : c.frm ≤ c.got
  g1 : c.got ≤ c.limit
  o0 : -1 ≤ c.total
  o1 : c.total ≤ c.limit
  n0 : 0 ≤ c.now
  n1 : c.now ≤ 1099511627776
  y0 : 0 ≤ c.tries
  y1 : c.tries ≤ 16
  a0 : 1 ≤ c.wait
  a1 : c.wait ≤ 64000
  k0 : 0 ≤ c.wake
  k1 : c.wake ≤ 1099511691776
  b0 : 0 ≤ c.began
  b1 : c.began ≤ c.got
  s0 : 0 ≤ c.last
  s1 : c.last ≤ c.now
  p0 : 0 ≤ c.skip
  p1 : c.skip ≤ 1048576
  q0 : -1 ≤ c.left
  q1 : c.left ≤ 1000000000
/-! ### fails, loses, Tick, ends, State, Got, Total -/
theorem fails_any (b bb : Nat) (c : Cl) (k : Int) (w : World) (h : ClAt w b bb c) : Calls Tryz.prog 29 #[Ptr b, I k] w (ClPost (.tuple #[]) b bb w (failsF c k)) := by
  obtain ⟨c0, c1, c2, c3, c4, c5, c6, c7, c8, c9, c10, c11, c12, c13, c14, c15, c16, c17, c18, c19, c20⟩ := h.cells
  have hf := h.free
  have H := Lib.hid h
  clear h
  go_enter Tryz.func29, Tryz.ntmps29
  go_wp2_with (fail)
  exact bodyPost_end (v := .tuple #[]) (by simp [results, Tryz.results29, go_sem]) rfl (ClPost.mk ((H.out.set7 4).set8 k) (((Kept.refl [b, bb] w).setCell (.inl (by simp)) _).setCell (.inl (by simp)) _) rfl)
theorem state_any (b bb : Nat) (c : Cl) (w : World) (h : ClAt w b bb c) : Calls Tryz.prog 12 #[Ptr b] w fun e w' => e = .returned (.tuple #[I c.state, I c.e]) ∧ ClAt w' b bb c ∧ Kept [] w w' := by
  obtain ⟨c0, c1, c2, c3, c4, c5, c6, c7, c8, c9, c10, c11, c12, c13, c14, c15, c16, c17, c18, c19, c20⟩ := h.cells
  have H := Lib.hid h
  clear h
  go_enter Tryz.func12, Tryz.ntmps12
  go_wp2_with (fail)
  go_quiet (fail)
  go_wp2_with (fail)
  go_ret2
  exact ⟨rfl, H.out.drewN _, (Kept.refl [] w).drewN _⟩
theorem got_any (b bb : Nat) (c : Cl) (w : World) (h : ClAt w b bb c) : Calls Tryz.prog 11 #[Ptr b] w fun e w' => e = .returned (I c.got) ∧ w' = w := by
  obtain ⟨c0, c1, c2, c3, c4, c5, c6, c7, c8, c9, c10, c11, c12, c13, c14, c15, c16, c17, c18, c19, c20⟩ := h.cells
  go_enter Tryz.func11, Tryz.ntmps11
  go_wp2_with (fail)
  go_ret
  exact ⟨rfl, rfl⟩
theorem total_any (b bb : Nat) (c : Cl) (w : World) (h : ClAt w b bb c) : Calls Tryz.prog 15 #[Ptr b] w fun e w' => e = .returned (I c.total) ∧ w' = w := by
  obtain ⟨c0, c1, c2, c3, c4, c5, c6, c7, c8, c9, c10, c11, c12, c13, c14, c15, c16, c17, c18, c19, c20⟩ := h.cells
  go_enter Tryz.func15, Tryz.ntmps15
  go_wp2_with (fail)
  go_ret
  exact ⟨rfl, rfl⟩
end CL
end
section
namespace CL
set_option maxHeartbeats 8000000
set_option maxRecDepth 100000
set_option maxHeartbeats 4000000 in
theorem loses_any (b bb : Nat) (c : Cl) (w : World) (h : ClAt w b bb c) (hd : c.Bd) : Calls Tryz.prog 26 #[Ptr b] w (ClPost (.tuple #[]) b bb w (losesF c)) := by
  have hf := h.free
  have H := Lib.hid h
  have HD := Lib.hid hd
  clear h hd
  go_enter Tryz.func26, Tryz.ntmps26
  obtain ⟨c0, c1, c2, c3, c4, c5, c6, c7, c8, c9, c10, c11, c12, c13, c14, c15, c16, c17, c18, c19, c20⟩ := H.out.cells
  go_wp2_with (fail)
  go_quiet (fail)
  have h1 : ClAt (w.drewN nq) b bb c := H.out.drewN nq
  have k1 : Kept [b, bb] w (w.drewN nq) := (Kept.refl _ _).drewN _
  clear c0 c1 c2 c3 c4 c5 c6 c7 c8 c9 c10 c11 c12 c13 c14 c15 c16 c17 c18 c19 c20 hf
  generalize w.drewN nq = w1 at *
  obtain ⟨c0, c1, c2, c3, c4, c5, c6, c7, c8, c9, c10, c11, c12, c13, c14, c15, c16, c17, c18, c19, c20⟩ := h1.cells
  have hf := h1.free
  have H1 := Lib.hid (And.intro h1 k1)
  clear h1 k1
  go_upto_if 10 with (fail)
  go_cut [] from 11 to 26 (fun wx => ClAt wx b bb (lose1 c) ∧ Kept [b, bb] w wx)
  case first =>
    go_wp2_with (fail)
    · have hbg : c.began < c.got := by assumption
      have HL : Hid (lose1 c = { c with tries := c.trs, wait := c.wt }) := Lib.hid (by unfold lose1; rw [if_pos hbg])
      go_region
      all_goals (go_wp2_with (fail); go_meet)
      all_goals (refine ⟨?_, ?_⟩)
      all_goals first
        | exact ((H1.out.2.setCell (.inl (by simp)) _).setCell (.inl (by simp)) _).drew
        | (rw [HL.out]; exact ((H1.out.1.set12 c.trs).set13 c.wt).drew)
    · have hbg : ¬ c.began < c.got := by first | assumption | omega
      have HL : Hid (lose1 c = c) := Lib.hid (by unfold lose1; rw [if_neg hbg])
      all_goals go_meet
      exact ⟨by rw [HL.out]; exact H1.out.1, H1.out.2⟩
  case rest =>
  obtain ⟨h1, k1⟩ := hcut
  clear H1
  clear c0 c1 c2 c3 c4 c5 c6 c7 c8 c9 c10 c11 c12 c13 c14 c15 c16 c17 c18 c19 c20 hf
  obtain ⟨l, hl⟩ : ∃ l, lose1 c = l := ⟨_, rfl⟩
  have hlb : 0 ≤ l.tries ∧ l.tries ≤ 16 ∧ 1 ≤ l.wait ∧ l.wait ≤ 64000 ∧ 0 ≤ l.now ∧ l.now ≤ 1099511627776 := by
    have h := HD.out
    rw [← hl]; unfold lose1
    split
    · exact ⟨(show 0 ≤ c.trs by have := h.r0; omega), h.r1, h.w0, (show c.wt ≤ 64000 by have := h.w1; omega), h.n0, h.n1⟩
    · exact ⟨h.y0, h.y1, h.a0, h.a1, h.n0, h.n1⟩
  obtain ⟨b1, b2, b3, b4, b5, b6⟩ := hlb
  have HL : Hid (losesF c = lose2 { l with tries := l.tries - 1 }) := Lib.hid (by unfold losesF; rw [hl])
  rw [hl] at h1
  obtain ⟨c0, c1, c2, c3, c4, c5, c6, c7, c8, c9, c10, c11, c12, c13, c14, c15, c16, c17, c18, c19, c20⟩ := h1.cells
  have hf := h1.free
  have H1 := Lib.hid (And.intro h1 k1)
  clear h1 k1 hl
  go_upto_region 3 with (fail)
  have h2 := H1.out.1.set12 (l.tries - 1)
  have k2 : Kept [b, bb] w (wc.setCell ⟨b, 12, none⟩ (I (l.tries - 1))) := H1.out.2.setCell (.inl (by simp)) _
  clear c0 c1 c2 c3 c4 c5 c6 c7 c8 c9 c10 c11 c12 c13 c14 c15 c16 c17 c18 c19 c20 hf
  obtain ⟨w2, hw2⟩ : ∃ w2, wc.setCell ⟨b, 12, none⟩ (I (l.tries - 1)) = w2 := ⟨_, rfl⟩
  have hw2' : wc.setCell ⟨b, 12, none⟩ (Value.int .i64 (l.tries - 1)) = w2 := hw2
  rw [hw2] at h2 k2
  rw [hw2']
  clear hw2 hw2'
  obtain ⟨c0, c1, c2, c3, c4, c5, c6, c7, c8, c9, c10, c11, c12, c13, c14, c15, c16, c17, c18, c19, c20⟩ := h2.cells
  simp only at c12
  have hf := h2.free
  have H2 := Lib.hid (And.intro h2 k2)
  clear h2 k2
  by_cases ht : l.tries - 1 = 0
  · have htb : (l.tries - 1 == 0) = true := by simpa using ht
    have HT : Hid (losesF c = failsF { l with tries := l.tries - 1 } 194) := Lib.hid (by rw [HL.out]; unfold lose2; rw [if_pos ht])
    clear ht
    go_wp2_with (fail)
    refine (fails_any b bb _ 194 w2 H2.out.1).mono ?_
    rintro e w3 ⟨rfl, h3, k3⟩
    go_wp2_with (fail)
    exact bodyPost_ret (v := .tuple #[]) (by simp [results, Tryz.results26, go_sem]) rfl (ClPost.mk h3 (H2.out.2.trans' k3) HT.out)
  · have htb : (l.tries - 1 == 0) = false := by simpa using ht
    have HT : Hid (losesF c = { l with tries := l.tries - 1, state := 2, wake := l.now + l.wait, wait := min (2 * l.wait) 64000 }) := Lib.hid (by rw [HL.out]; unfold lose2; rw [if_neg ht])
    clear ht
    go_wp2_with (fail)
    go_region
    all_goals (go_wp2_with (fail))
    exact bodyPost_end (v := .tuple #[]) (by simp [results, Tryz.results26, go_sem]) rfl (ClPost.mk ((((H2.out.1.set7 2).set14 (l.now + l.wait)).drew).set13 (min (2 * l.wait) 64000)) ((((H2.out.2.setCell (.inl (by simp)) _).setCell (.inl (by simp)) _).drew).setCell (.inl (by simp)) _) HT.out)
/-! ### Bounds -/
theorem Cl.Bd.fails {c : Cl} (h : c.Bd) (k : Int) : (failsF c k).Bd := by
  obtain ⟨f0, f1, l1, t0, t1, r0, r1, w0, w1, g0, g1, o0, o1, n0, n1, y0, y1, a0, a1, k0, k1, b0, b1, s0, s1, p0, p1, q0, q1⟩ := h
  unfold failsF
  constructor <;> assumption
theorem Cl.Bd.lose1 {c : Cl} (h : c.Bd) : (lose1 c).Bd := by
  obtain ⟨f0, f1, l1, t0, t1, r0, r1, w0, w1, g0, g1, o0, o1, n0, n1, y0, y1, a0, a1, k0, k1, b0, b1, s0, s1, p0, p1, q0, q1⟩ := h
  unfold CL.lose1
  split
  · constructor <;> first | assumption | (simp only; omega)
  · constructor <;> assumption
theorem Cl.Bd.loses {c : Cl} (h : c.Bd) (hp : 1 ≤ (CL.lose1 c).tries) : (losesF c).Bd := by
  obtain ⟨f0, f1, l1, t0, t1, r0, r1, w0, w1, g0, g1, o0, o1, n0, n1, y0, y1, a0, a1, k0, k1, b0, b1, s0, s1, p0, p1, q0, q1⟩ := h.lose1
  unfold losesF lose2 failsF
  generalize CL.lose1 c = l at *
  split <;> constructor <;> first | assumption | (simp only; omega)
theorem Cl.Bd.tick1 {c : Cl} (h : c.Bd) (n : Int) (hn : 1 ≤ n) : (CL.tick1 c n).Bd := by
  obtain ⟨f0, f1, l1, t0, t1, r0, r1, w0, w1, g0, g1, o0, o1, n0, n1, y0, y1, a0, a1, k0, k1, b0, b1, s0, s1, p0, p1, q0, q1⟩ := h
  unfold CL.tick1
  constructor <;> first | assumption | (simp only; omega)
theorem Cl.Bd.ends1 {c : Cl} (h : c.Bd) : (CL.ends1 c).Bd := by
  obtain ⟨f0, f1, l1, t0, t1, r0, r1, w0, w1, g0, g1, o0, o1, n0, n1, y0, y1, a0, a1, k0, k1, b0, b1, s0, s1, p0, p1, q0, q1⟩ := h
  unfold CL.ends1
  split
  · constructor <;> first | assumption | (simp only; omega)
  · constructor <;> assumption
theorem ends1_eq (c : Cl) : (CL.ends1 c).tries = c.tries ∧ (CL.ends1 c).trs = c.trs := by unfold CL.ends1; split <;> exact ⟨rfl, rfl⟩
set_option maxHeartbeats 4000000 in
theorem tick_any (b bb : Nat) (c : Cl) (n : Int) (w : World) (h : ClAt w b bb c) (hd : c.Bd) (hn2 : n ≤ 9223372036854775807) : Calls Tryz.prog 13 #[Ptr b, I n] w (ClPost (.tuple #[]) b bb w (tickF c n)) := by
  obtain ⟨c0, c1, c2, c3, c4, c5, c6, c7, c8, c9, c10, c11, c12, c13, c14, c15, c16, c17, c18, c19, c20⟩ := (h).cells
  have hf := (h).free
  have H := Lib.hid h
  have HD := Lib.hid hd
  clear h hd
  go_enter Tryz.func13, Tryz.ntmps13
  by_cases hn : n < 1
  · have HT : Hid (tickF c n = c) := Lib.hid (by unfold tickF; rw [if_pos hn])
    go_wp2_with (fail)
    exact bodyPost_ret (v := .tuple #[]) (by simp [results, Tryz.results13, go_sem]) rfl (ClPost.mk H.out (Kept.refl _ _) HT.out)
  have HT : Hid (tickF c n = tick2 (tick1 c n)) := Lib.hid (by unfold tickF; rw [if_neg hn])
  have hn1 : 1 ≤ n := by omega
  obtain ⟨m, hm⟩ : ∃ m, min n 1099511627776 = m := ⟨_, rfl⟩
  obtain ⟨nn, hnn⟩ : ∃ nn, min 1099511627776 (c.now + m) = nn := ⟨_, rfl⟩
  have hm1 : 1 ≤ m ∧ m ≤ 1099511627776 := by omega
  obtain ⟨m1, m2⟩ := hm1
  have hc1 := HD.out.n0
  have hc2 := HD.out.n1
  have h2 := H.out.set11 nn
  have ht1 : ({ c with now := nn } : Cl) = tick1 c n := by unfold tick1; rw [hm, hnn]
  rw [ht1] at h2
  have HB := Lib.hid (HD.out.tick1 n hn1)
  clear ht1
  go_upto_region 2 with (fail)
  have k2 : Kept [b, bb] w (w.setCell ⟨b, 11, none⟩ (I nn)) := (Kept.refl _ _).setCell (.inl (by simp)) _
  clear c0 c1 c2 c3 c4 c5 c6 c7 c8 c9 c10 c11 c12 c13 c14 c15 c16 c17 c18 c19 c20 hf
  obtain ⟨w2, hw2⟩ : ∃ w2, w.setCell ⟨b, 11, none⟩ (I nn) = w2 := ⟨_, rfl⟩
  have hw2' : w.setCell ⟨b, 11, none⟩ (Value.int .i64 nn) = w2 := hw2
  rw [hw2] at h2 k2
  rw [hw2']
  clear hw2 hw2'
  obtain ⟨t, ht⟩ : ∃ t, tick1 c n = t := ⟨_, rfl⟩
  rw [ht] at h2 HT HB
  have b0 := HB.out.n0
  have b1 := HB.out.n1
  have b2 := HB.out.s0
  have b3 := HB.out.s1
  clear ht hc1 hc2 hn hm hnn m1 m2
  obtain ⟨c0, c1, c2, c3, c4, c5, c6, c7, c8, c9, c10, c11, c12, c13, c14, c15, c16, c17, c18, c19, c20⟩ := (h2).cells
  have hf := (h2).free
  have H2 := Lib.hid (And.intro h2 k2)
  clear h2 k2
  have hways : (t.state = 2 ∧ t.wake ≤ t.now) ∨ (t.state = 2 ∧ t.now < t.wake) ∨ (t.state ≠ 2 ∧ t.state = 1 ∧ t.tmo ≤ t.now - t.last) ∨ (t.state ≠ 2 ∧ t.state = 1 ∧ t.now - t.last < t.tmo) ∨ (t.state ≠ 2 ∧ t.state ≠ 1) := by omega
  rcases hways with ⟨h1, h2⟩ | ⟨h1, h2⟩ | ⟨h1, h3, h2⟩ | ⟨h1, h3, h2⟩ | ⟨h1, h3⟩
  · have hs2 : (t.state == 2) = true := by simpa using h1
    have HF : Hid (tickF c n = { t with state := 0 }) := Lib.hid (by rw [HT.out]; unfold tick2; rw [if_pos ⟨h1, h2⟩])
    clear h1
    go_wp2_with (fail)
    go_quiet (fail)
    go_wp2_with (fail)
    exact bodyPost_end (v := .tuple #[]) (by simp [results, Tryz.results13, go_sem]) rfl (ClPost.mk ((H2.out.1.drewN nq).set7 0) ((H2.out.2.drewN nq).setCell (.inl (by simp)) _) HF.out)
  · have hs2 : (t.state == 2) = true := by simpa using h1
    have hs1 : (t.state == 1) = false := by simp; omega
    have h2f : decide (t.wake ≤ t.now) = false := decide_eq_false (by omega)
    have HF : Hid (tickF c n = t) := Lib.hid (by rw [HT.out]; unfold tick2; rw [if_neg (by omega), if_neg (by omega)])
    clear h1
    go_wp2_with (fail)
    go_quiet (fail)
    go_wp2_with (fail)
    go_quiet (fail)
    go_wp2_with (fail)
    exact bodyPost_end (v := .tuple #[]) (by simp [results, Tryz.results13, go_sem]) rfl (ClPost.mk (by first | exact H2.out.1.drewN _ | exact (H2.out.1.drewN _).drewN _) (by first | exact H2.out.2.drewN _ | exact (H2.out.2.drewN _).drewN _) HF.out)
  · have hs2 : (t.state == 2) = false := by simpa using h1
    have hs1 : (t.state == 1) = true := by simpa using h3
    have HF : Hid (tickF c n = losesF t) := Lib.hid (by rw [HT.out]; unfold tick2; rw [if_neg (by omega), if_pos ⟨h3, h2⟩])
    clear h1 h3
    go_wp2_with (fail)
    go_quiet (fail)
    go_wp2_with (fail)
    go_quiet (fail)
    go_wp2_with (fail)
    refine (loses_any b bb t _ (H2.out.1.drewN _) HB.out).mono ?_
    rintro e w3 ⟨rfl, h3, k3⟩
    go_wp2_with (fail)
    exact bodyPost_end (v := .tuple #[]) (by simp [results, Tryz.results13, go_sem]) rfl (ClPost.mk h3 ((H2.out.2.drewN _).trans' k3) HF.out)
  · have hs2 : (t.state == 2) = false := by simpa using h1
    have hs1 : (t.state == 1) = true := by simpa using h3
    have h2f : decide (t.tmo ≤ t.now - t.last) = false := decide_eq_false (by omega)
    have HF : Hid (tickF c n = t) := Lib.hid (by rw [HT.out]; unfold tick2; rw [if_neg (by omega), if_neg (by omega)])
    clear h1 h3
    go_wp2_with (fail)
    go_quiet (fail)
    go_wp2_with (fail)
    go_quiet (fail)
    go_wp2_with (fail)
    exact bodyPost_end (v := .tuple #[]) (by simp [results, Tryz.results13, go_sem]) rfl (ClPost.mk (by first | exact H2.out.1.drewN _ | exact (H2.out.1.drewN _).drewN _) (by first | exact H2.out.2.drewN _ | exact (H2.out.2.drewN _).drewN _) HF.out)
  · have hs2 : (t.state == 2) = false := by simpa using h1
    have hs1 : (t.state == 1) = false := by simpa using h3
    have HF : Hid (tickF c n = t) := Lib.hid (by rw [HT.out]; unfold tick2; rw [if_neg (by omega), if_neg (by omega)])
    clear h1 h3
    go_wp2_with (fail)
    go_quiet (fail)
    go_wp2_with (fail)
    go_quiet (fail)
    go_wp2_with (fail)
    exact bodyPost_end (v := .tuple #[]) (by simp [results, Tryz.results13, go_sem]) rfl (ClPost.mk (by first | exact H2.out.1.drewN _ | exact (H2.out.1.drewN _).drewN _) (by first | exact H2.out.2.drewN _ | exact (H2.out.2.drewN _).drewN _) HF.out)
set_option maxHeartbeats 4000000 in
theorem ends_any (b bb : Nat) (c : Cl) (w : World) (h : ClAt w b bb c) (hd : c.Bd) : Calls Tryz.prog 35 #[Ptr b] w (ClPost (.tuple #[]) b bb w (endsF c)) := by
  obtain ⟨c0, c1, c2, c3, c4, c5, c6, c7, c8, c9, c10, c11, c12, c13, c14, c15, c16, c17, c18, c19, c20⟩ := (h).cells
  have hf := (h).free
  have H := Lib.hid h
  have HD := Lib.hid hd
  clear h hd
  go_enter Tryz.func35, Tryz.ntmps35
  by_cases hs : 0 < c.skip
  · have HF : Hid (endsF c = failsF c 192) := Lib.hid (by unfold endsF; rw [if_pos hs])
    go_wp2_with (fail)
    refine (fails_any b bb c 192 _ H.out).mono ?_
    rintro e w3 ⟨rfl, h3, k3⟩
    go_wp2_with (fail)
    exact bodyPost_ret (v := .tuple #[]) (by simp [results, Tryz.results35, go_sem]) rfl (ClPost.mk h3 k3 HF.out)
  have HF : Hid (endsF c = if (ends1 c).got = (ends1 c).total then { ends1 c with state := 3 } else losesF (ends1 c)) := Lib.hid (by unfold endsF; rw [if_neg hs])
  have HB := Lib.hid HD.out.ends1
  go_upto_if 13 with (fail)
  go_cut [] from 10 to 20 (fun wx => ClAt wx b bb (ends1 c) ∧ Kept [b, bb] w wx)
  case first =>
    go_wp2_with (fail)
    · have ht : c.total < 0 := by assumption
      go_meet
      exact ⟨by unfold ends1; rw [if_pos ht]; exact H.out.set10 c.got, (Kept.refl _ _).setCell (.inl (by simp)) _⟩
    · have ht : ¬ c.total < 0 := by first | assumption | omega
      go_meet
      exact ⟨by unfold ends1; rw [if_neg ht]; exact H.out, Kept.refl _ _⟩
  case rest =>
  obtain ⟨h2, k2⟩ := hcut
  clear c0 c1 c2 c3 c4 c5 c6 c7 c8 c9 c10 c11 c12 c13 c14 c15 c16 c17 c18 c19 c20 hf
  obtain ⟨t, ht⟩ : ∃ t, ends1 c = t := ⟨_, rfl⟩
  rw [ht] at h2 HF HB
  clear ht
  obtain ⟨c0, c1, c2, c3, c4, c5, c6, c7, c8, c9, c10, c11, c12, c13, c14, c15, c16, c17, c18, c19, c20⟩ := (h2).cells
  have hf := (h2).free
  have H2 := Lib.hid (And.intro h2 k2)
  clear h2 k2
  by_cases he : t.got = t.total
  · have hb : (t.got == t.total) = true := by simpa using he
    have HG : Hid (endsF c = { t with state := 3 }) := Lib.hid (by rw [HF.out, if_pos he])
    clear he
    go_wp2_with (fail)
    go_quiet (fail)
    go_wp2_with (fail)
    exact bodyPost_ret (v := .tuple #[]) (by simp [results, Tryz.results35, go_sem]) rfl (ClPost.mk ((H2.out.1.drewN nq).set7 3) ((H2.out.2.drewN nq).setCell (.inl (by simp)) _) HG.out)
  · have hb : (t.got == t.total) = false := by simpa using he
    have HG : Hid (endsF c = losesF t) := Lib.hid (by rw [HF.out, if_neg he])
    clear he
    go_wp2_with (fail)
    go_quiet (fail)
    go_wp2_with (fail)
    refine (loses_any b bb t _ (H2.out.1.drewN _) HB.out).mono ?_
    rintro e w3 ⟨rfl, h3, k3⟩
    go_wp2_with (fail)
    exact bodyPost_end (v := .tuple #[]) (by simp [results, Tryz.results35, go_sem]) rfl (ClPost.mk h3 ((H2.out.2.drewN _).trans' k3) HG.out)
end CL
end
end Go.Proofs.YtgdncdhalnijcaaGreatDoor
