/- Walks and lemmas on the program of this seat, used by its statements; each theorem bears its own conditions. -/
import Derived.Test.YtncdfaocemfgfaaGreatDoorW27
import Derived.Test.YtncdfaocemfgfaaGreatDoorW23
import Derived.Test.YtncdfaocemfgfaaGreatDoorW21
import Derived.Test.YtncdfaocemfgfaaGreatDoorW17
import Derived.Handy
import Derived.OwnWalk
import Derived.Deep.AppendLies
import Derived.IntWalk
import Derived.Deep.CutRange
import Derived.Deep.RegionHeld3
import Derived.Deep.RegionLaw
import Derived.Maps.OwnSet
import Derived.Maps.Range
import Derived.Laws.IdiomCopy
import Derived.Deep.OwnRows
namespace Go.Proofs.YtncdfaocemfgfaaGreatDoor
open Go.RowKit
set_option linter.unusedVariables false
set_option linter.unusedSimpArgs false
set_option linter.unusedSectionVars false
section
open Go.RowKit
set_option linter.unusedVariables false
set_option linter.unusedSimpArgs false
set_option maxHeartbeats 8000000
set_option maxRecDepth 100000
theorem DropPostL.val {lb pb fb bb cb fs n : Nat} {v : Value} {s0 : Sg} {tl : List Sg} {f : Fl} {w : World} {e : Ending} {w' : World} (h : DropPostL lb pb fb bb cb fs n v tl s0 f w e w') :
    ∃ r : Int, e = .returned (I r) ∧ ((r = 0 ∧ ∃ g v', StepOK f g ∧ blockOf g.bs (fs + s0.1) = fullB ∧ Others (fs + s0.1) f g ∧ Fresh w v v' ∧ LgAt w' lb pb fb bb cb fs n v' tl g false ∧ Kept (LgT lb fb bb cb v) w w') ∨
      (r = 2 ∧ ∃ g, StepDead f g ∧ (blockOf g.bs (fs + s0.1) = blockOf f.bs (fs + s0.1) ∨ JunkB (blockOf g.bs (fs + s0.1))) ∧ Others (fs + s0.1) f g ∧ LgAt w' lb pb fb bb cb fs n v (tl ++ [s0]) g true ∧ Kept (LgT lb fb bb cb v) w w')) := by
  rcases h with ⟨g, a, b, c, rfl, v', d, x, y⟩ | ⟨g, a, b, c, rfl, x, y⟩
  · exact ⟨0, rfl, .inl ⟨rfl, g, v', a, b, c, d, x, y⟩⟩
  · exact ⟨2, rfl, .inr ⟨rfl, g, a, b, c, x, y⟩⟩
end
section
open Go.RowKit
set_option linter.unusedVariables false
set_option linter.unusedSimpArgs false
set_option maxHeartbeats 8000000
set_option maxRecDepth 100000
@[go_sem] theorem i64_and3 (n : Int) : bits .and .i64 n 3 = n % 4 := by
  have h : (BitVec.ofInt 64 3).toNat = 2 ^ 2 - 1 := by decide
  have key : (BitVec.ofInt 64 n &&& BitVec.ofInt 64 3).toNat = (n % ((2 ^ 64 : Nat) : Int)).toNat % 2 ^ 2 := by
    rw [BitVec.toNat_and, BitVec.toNat_ofInt, h, Nat.and_two_pow_sub_one_eq_mod]
  show IntKind.i64.wrap ((BitVec.ofInt 64 n &&& BitVec.ofInt 64 3).toNat : Nat) = n % 4
  rw [key, IntKind.wrap_i64]
  omega
/-- A store with its flash, armed or not. -/
def STK (w : World) (fb sb n : Nat) (V : OM) (d : Nat) (T : List Nat) : Prop :=
  ∃ bb cb pb lb mb kb v st f, T = pb :: StT sb lb fb bb cb mb kb v ∧ SAtK w sb lb pb fb bb cb mb kb n v st f ∧ GoodK n st ∧ SortedA V ∧ (∀ k, valM st.M k = valM V k) ∧ st.D ≤ d ∧ f.cs.length = n + 1
/-- A flash whose power went: with the objects V, or W. -/
def FLK (w : World) (fb bb cb n : Nat) (g : Fl) (V W : OM) (d : Nat) : Prop :=
  FlAt w fb bb cb g ∧ 0 ≤ g.keep ∧ g.cs.length = n + 1 ∧ (CrP n g V d ∨ CrP n g W d)
theorem CrP.bs {n : Nat} {f g : Fl} {V : OM} {d : Nat} (h : CrP n f V d) (e : g.bs = f.bs) : CrP n g V d := by
  obtain ⟨st, h1, h2, h3⟩ := h
  exact ⟨st, h1, fun j hj => by have := h2 j hj; rw [← e] at this; exact this, h3⟩
end
section
open Go.RowKit
set_option linter.unusedVariables false
set_option linter.unusedSimpArgs false
set_option maxHeartbeats 8000000
set_option maxRecDepth 100000
/-- P holds of blocks T, made behind W; the blocks U, apart from them, are as they were in Wr. -/
def LW (W Wr : World) (U : List Nat) (P : World → List Nat → Prop) (w : World) : Prop :=
  ∃ T, P w T ∧ (∀ x ∈ T, x < w.heap.size) ∧ (∀ x ∈ U, x ∉ T ∧ x < w.heap.size ∧ w.heap[x]? = Wr.heap[x]?) ∧ (∀ x ∈ T, W.heap.size ≤ x) ∧ Kept [] W w
section
variable {W Wr w : World} {U : List Nat} {P : World → List Nat → Prop}
theorem LW.old (h : LW W Wr U P w) : Kept [] W w := by obtain ⟨T, h1, h2, h3, h4, h5⟩ := h; exact h5
theorem LW.cell (h : LW W Wr U P w) {b i : Nat} {v : Value} (hb : b ∈ U) (hc : Wr.cell? ⟨b, i, none⟩ = some v) : w.cell? ⟨b, i, none⟩ = some v := by
  obtain ⟨T, h1, h2, h3, h4, h5⟩ := h
  exact (World.cell?_of_block (w := Wr) (h3 b hb).2.2).trans hc
theorem LW.ps (h : LW W Wr U P w) {v : Value} {l : VL} (hp : PsAt Wr v l) (hq : ∀ q, v.ownBlock = some q → q ∈ U) : PsAt w v l := by
  obtain ⟨p, c, g, rfl, hp, hc⟩ := hp
  refine ⟨p, c, g, rfl, hp, fun i hi => ?_⟩
  have e := hp (by intro h; rw [h] at hi; simp at hi)
  subst e
  have hg := hq g rfl
  exact ⟨h.cell hg (hc i hi).1, h.cell hg (hc i hi).2⟩
/-- Nothing but new memory. -/
theorem LW.same (h : LW W Wr U P w) {w' : World} (k : Kept [] w w') (hP : ∀ T, P w T → P w' T) : LW W Wr U P w' := by
  obtain ⟨T, h1, h2, h3, h4, h5⟩ := h
  exact ⟨T, hP T h1, fun x hx => Nat.lt_of_lt_of_le (h2 x hx) k.size, fun x hx => ⟨(h3 x hx).1, Nat.lt_of_lt_of_le (h3 x hx).2.1 k.size, (k.block x (h3 x hx).2.1 (by simp)).trans (h3 x hx).2.2⟩, h4, h5.trans' k⟩
/-- A new block is to stay, too. -/
theorem LW.add (h : LW W Wr U P w) {w' : World} (k : Kept [] w w') (hP : ∀ T, P w T → P w' T) {b : Nat} (hb : w.heap.size ≤ b) (hb2 : b < w'.heap.size) : LW W w' (b :: U) P w' := by
  obtain ⟨T, h1, h2, h3, h4, h5⟩ := h
  refine ⟨T, hP T h1, fun x hx => Nat.lt_of_lt_of_le (h2 x hx) k.size, fun x hx => ?_, h4, h5.trans' k⟩
  rcases List.mem_cons.1 hx with rfl | hx
  · exact ⟨fun hm => by have := h2 x hm; omega, hb2, rfl⟩
  · exact ⟨(h3 x hx).1, Nat.lt_of_lt_of_le (h3 x hx).2.1 k.size, rfl⟩
theorem LW.turn (h : LW W Wr U P w) {f : Nat} {args : Array Value} {A : Type} (R : A → Ending → Prop) (Q : A → World → List Nat → Prop)
    (hc : ∀ T, P w T → Calls Tryz.prog f args w (fun e w' => ∃ a, R a e ∧ ∃ T', Q a w' T' ∧ (∀ x ∈ T', x < w'.heap.size) ∧ Kept T w w' ∧ (∀ x ∈ T', x ∈ T ∨ w.heap.size ≤ x))) :
    Calls Tryz.prog f args w (fun e w' => ∃ a, R a e ∧ LW W Wr U (Q a) w') := by
  obtain ⟨T, h1, h2, h3, h4, h5⟩ := h
  refine (hc T h1).mono ?_
  rintro e w' ⟨a, hR, T', hQ, hlt, k, hfr⟩
  have hWs := h5.size
  refine ⟨a, hR, T', hQ, hlt, fun x hx => ⟨fun hm => ?_, Nat.lt_of_lt_of_le (h3 x hx).2.1 k.size, (k.block x (h3 x hx).2.1 (h3 x hx).1).trans (h3 x hx).2.2⟩, fun x hx => ?_, h5.new k (fun x hx => h4 x hx)⟩
  · rcases hfr x hm with h | h
    · exact (h3 x hx).1 h
    · have := (h3 x hx).2.1; omega
  · rcases hfr x hx with h | h
    · exact h4 x h
    · omega
/-- What a pure look tells. -/
theorem LW.look (h : LW W Wr U P w) {f : Nat} {args : Array Value} {R : Ending → World → Prop} (hc : ∀ T, P w T → Calls Tryz.prog f args w R) : Calls Tryz.prog f args w R := by
  obtain ⟨T, h1, _⟩ := h
  exact hc T h1
end
def PF (w : World) (fb n : Nat) (V1 V2 : OM) (d : Nat) (T : List Nat) : Prop := ∃ bb cb g, T = [fb, bb, cb] ∧ FLK w fb bb cb n g V1 V2 d ∧ g.dead = true
section
variable {w : World} {fb sb n : Nat} {V V1 V2 : OM} {d : Nat} {T : List Nat}
theorem STK.lt (h : STK w fb sb n V d T) : ∀ x ∈ T, x < w.heap.size := by
  obtain ⟨bb, cb, pb, lb, mb, kb, v, st, f, rfl, h, _⟩ := h
  intro x hx
  rcases List.mem_cons.1 hx with rfl | hx
  · exact h.lt.2
  · exact h.lt.1 x hx
theorem STK.same {w' : World} (h : STK w fb sb n V d T) (k : Kept [] w w') : STK w' fb sb n V d T := by
  obtain ⟨bb, cb, pb, lb, mb, kb, v, st, f, e, h1, h2⟩ := h
  exact ⟨bb, cb, pb, lb, mb, kb, v, st, f, e, h1.same k, h2⟩
theorem STK.kept {w' : World} {U : List Nat} (h : STK w fb sb n V d T) (k : Kept U w w') (hU : ∀ x ∈ U, x ∉ T) : STK w' fb sb n V d T := by
  obtain ⟨bb, cb, pb, lb, mb, kb, v, st, f, e, h1, h2⟩ := h
  subst e
  exact ⟨bb, cb, pb, lb, mb, kb, v, st, f, rfl, h1.kept k (fun x hx => by have := hU x hx; simp only [List.mem_cons, not_or] at this; exact ⟨this.2, this.1⟩), h2⟩
theorem STK.mono {d' : Nat} (h : STK w fb sb n V d T) (hd : d ≤ d') : STK w fb sb n V d' T := by
  obtain ⟨bb, cb, pb, lb, mb, kb, v, st, f, e, h1, h2, h3, h4, h5, h6⟩ := h
  exact ⟨bb, cb, pb, lb, mb, kb, v, st, f, e, h1, h2, h3, h4, by omega, h6⟩
theorem STK.rd (h : STK w fb sb n V d T) : RD w sb V := by
  obtain ⟨bb, cb, pb, lb, mb, kb, v, st, f, e, h1, h2, h3, h4, h5, h6⟩ := h
  obtain ⟨C, hc, _⟩ := h1.core
  have hb := h1.bound.1
  have := h2.quota
  exact ⟨h3, mb, st.M, false, hc.toX, h1.inv.inv.sorted, h4, om_keys h1.inv.inv, by unfold quotaF at this; omega, vals_of h1.inv.inv⟩
theorem STK.small (h : STK w fb sb n V d T) : 8 ≤ n ∧ n ≤ 255 ∧ sumA wO V ≤ quotaF n ∧ quotaF n ≤ 2000 := by
  obtain ⟨bb, cb, pb, lb, mb, kb, v, st, f, e, h1, h2, h3, h4, h5, h6⟩ := h
  have hb := h1.bound.1
  refine ⟨h2.eight, by omega, ?_, by unfold quotaF; omega⟩
  rw [← weight_same h1.inv.inv.sorted h3 h4]
  exact h2.quota
theorem PF.lt (h : PF w fb n V1 V2 d T) : ∀ x ∈ T, x < w.heap.size := by
  obtain ⟨bb, cb, g, rfl, h, _⟩ := h
  have := h.1.lt
  have := h.1.lt2
  have := h.1.lt3
  intro x hx
  simp at hx
  omega
theorem PF.same {w' : World} (h : PF w fb n V1 V2 d T) (k : Kept [] w w') : PF w' fb n V1 V2 d T := by
  obtain ⟨bb, cb, g, e, h, hd⟩ := h
  exact ⟨bb, cb, g, e, ⟨h.1.same k, h.2⟩, hd⟩
theorem PF.kept {w' : World} {U : List Nat} (h : PF w fb n V1 V2 d T) (k : Kept U w w') (hU : ∀ x ∈ U, x ∉ T) : PF w' fb n V1 V2 d T := by
  obtain ⟨bb, cb, g, rfl, h, hd⟩ := h
  refine ⟨bb, cb, g, rfl, ⟨h.1.kept k (fun hm => hU _ hm (by simp)) (fun hm => hU _ hm (by simp)) (fun hm => hU _ hm (by simp)), h.2⟩, hd⟩
theorem CrP.mono {f : Fl} {d' : Nat} (h : CrP n f V d) (hd : d ≤ d') : CrP n f V d' := h.vals (fun _ => rfl) hd
theorem PF.mono {d' : Nat} (h : PF w fb n V1 V2 d T) (hd : d ≤ d') : PF w fb n V1 V2 d' T := by
  obtain ⟨bb, cb, g, e, ⟨a, b, c, x⟩, hg⟩ := h
  exact ⟨bb, cb, g, e, ⟨a, b, c, x.imp (·.mono hd) (·.mono hd)⟩, hg⟩
def PutQ (fb sb n : Nat) (V : OM) (l : List Ch) (d : Nat) (r : Int) (w : World) (T : List Nat) : Prop :=
  (r = mayF n V l ∧ STK w fb sb n (putF n V l) d T) ∨ (r = 2 ∧ mayF n V l = 0 ∧ PF w fb n V (putF n V l) d T)
theorem PutQ.lt {l : List Ch} {r : Int} (h : PutQ fb sb n V l d r w T) : ∀ x ∈ T, x < w.heap.size := by
  rcases h with ⟨_, h⟩ | ⟨_, _, h⟩
  · exact h.lt
  · exact h.lt
end
/-- A step that leaves P's blocks alone. -/
theorem LW.step {W Wr w w' : World} {U U' S : List Nat} {P : World → List Nat → Prop} (h : LW W Wr U P w) (k : Kept S w w') (hS : ∀ x ∈ S, x ∈ U ∧ W.heap.size ≤ x) (hP : ∀ T, P w T → (∀ x ∈ S, x ∉ T) → P w' T) (hU : ∀ x ∈ U', x ∈ U ∨ (w.heap.size ≤ x ∧ x < w'.heap.size)) : LW W w' U' P w' := by
  obtain ⟨T, h1, h2, h3, h4, h5⟩ := h
  refine ⟨T, hP T h1 (fun x hx => (h3 x (hS x hx).1).1), fun x hx => Nat.lt_of_lt_of_le (h2 x hx) k.size, fun x hx => ?_, h4, h5.new k (fun x hx => (hS x hx).2)⟩
  rcases hU x hx with hx | hx
  · exact ⟨(h3 x hx).1, Nat.lt_of_lt_of_le (h3 x hx).2.1 k.size, rfl⟩
  · exact ⟨fun hm => by have := h2 x hm; omega, hx.2, rfl⟩
theorem LW.imp {W Wr w : World} {U : List Nat} {A B : World → List Nat → Prop} (h : LW W Wr U A w) (hi : ∀ T, A w T → B w T) : LW W Wr U B w := by
  obtain ⟨T, h1, h2⟩ := h
  exact ⟨T, hi T h1, h2⟩
theorem LW.at {W Wr w : World} {U : List Nat} {P : World → List Nat → Prop} (h : LW W Wr U P w) {b : Nat} {o : Obj} (hb : b ∈ U) (hc : Wr.heap[b]? = some o) : w.heap[b]? = some o := by
  obtain ⟨T, h1, h2, h3, h4, h5⟩ := h
  exact (h3 b hb).2.2.trans hc
end
end Go.Proofs.YtncdfaocemfgfaaGreatDoor
