/- Walks and lemmas on the program of this seat, used by its statements; each theorem bears its own conditions. -/
import Derived.Test.YteplbljjlbdhaaaGreatDoorZ22
import Derived.Test.YteplbljjlbdhaaaGreatDoorZ18
namespace Go.Proofs.YteplbljjlbdhaaaGreatDoor
open Go.RowKit
set_option linter.unusedVariables false
set_option linter.unusedSimpArgs false
set_option linter.unusedSectionVars false
set_option maxHeartbeats 16000000
set_option maxRecDepth 100000
@[go_sem] theorem i64_and3 (n : Int) : bits .and .i64 n 3 = n % 4 := by
 have h : (BitVec.ofInt 64 3).toNat = 2 ^ 2 - 1 := by decide
 have key : (BitVec.ofInt 64 n &&& BitVec.ofInt 64 3).toNat = (n % ((2 ^ 64 : Nat) : Int)).toNat % 2 ^ 2 := by
  rw [BitVec.toNat_and, BitVec.toNat_ofInt, h, Nat.and_two_pow_sub_one_eq_mod]
 show IntKind.i64.wrap ((BitVec.ofInt 64 n &&& BitVec.ofInt 64 3).toNat : Nat) = n % 4
 rw [key, IntKind.wrap_i64]
 omega
def STK (w : World) (fb sb n : Nat) (V : OM) (d : Nat) (T : List Nat) : Prop :=
 ∃ bb cb pb lb mb kb v st f, T = pb :: StT sb lb fb bb cb mb kb v ∧ SAtK w sb lb pb fb bb cb mb kb n v st f ∧ GoodK n st ∧ SortedA V ∧ (∀ k, valM st.M k = valM V k) ∧ st.D ≤ d ∧ f.cs.length = n + 1
def FLK (w : World) (fb bb cb n : Nat) (g : Fl) (V W : OM) (d : Nat) : Prop :=
 FlAt w fb bb cb g ∧ 0 ≤ g.keep ∧ g.cs.length = n + 1 ∧ (CrP n g V d ∨ CrP n g W d)
def PF (w : World) (fb n : Nat) (V1 V2 : OM) (d : Nat) (T : List Nat) : Prop := ∃ bb cb g, T = [fb, bb, cb] ∧ FLK w fb bb cb n g V1 V2 d ∧ g.dead = true
section
variable {w : World} {fb sb n : Nat} {V V1 V2 : OM} {d : Nat} {T : List Nat}
theorem STK.lt (h : STK w fb sb n V d T) : ∀ x ∈ T, x < w.heap.size := by
 obtain ⟨bb, cb, pb, lb, mb, kb, v, st, f, rfl, h, _⟩ := h
 intro x hx
 rcases List.mem_cons.1 hx with rfl | hx
 ·exact h.lt.2
 ·exact h.lt.1 x hx
theorem STK.same {w' : World} (h : STK w fb sb n V d T) (k : Kept [] w w') : STK w' fb sb n V d T := by
 obtain ⟨bb, cb, pb, lb, mb, kb, v, st, f, e, h1, h2⟩ := h
 exact ⟨bb, cb, pb, lb, mb, kb, v, st, f, e, h1.same k, h2⟩
theorem STK.kept {w' : World} {U : List Nat} (h : STK w fb sb n V d T) (k : Kept U w w') (hU : ∀ x ∈ U, x ∉ T) : STK w' fb sb n V d T := by
 obtain ⟨bb, cb, pb, lb, mb, kb, v, st, f, e, h1, h2⟩ := h
 subst e
 exact ⟨bb, cb, pb, lb, mb, kb, v, st, f, rfl, h1.kept k (fun x hx => by have := hU x hx; simp only [List.mem_cons, not_or] at this; exact ⟨this.2, this.1⟩), h2⟩
theorem STK.mono {d' : Nat} (h : STK w fb sb n V d T) (hd : d ≤ d') : STK w fb sb n V d' T := by
 obtain ⟨bb, cb, pb, lb, mb, kb, v, st, f, e, h1, h2, h3, h4, h5, h6⟩ := h
 exact ⟨bb, cb, pb, lb, mb, kb, v, st, f, e, h1, h2, h3, h4, by omega, h6⟩
theorem STK.rd (h : STK w fb sb n V d T) : RD w sb V := by
 obtain ⟨bb, cb, pb, lb, mb, kb, v, st, f, e, h1, h2, h3, h4, h5, h6⟩ := h
 obtain ⟨C, hc, _⟩ := h1.core
 have hb := h1.bound.1
 have := h2.quota
 exact ⟨h3, mb, st.M, false, hc.toX, h1.inv.inv.sorted, h4, om_keys h1.inv.inv, by unfold quotaF at this; omega, vals_of h1.inv.inv⟩
theorem STK.small (h : STK w fb sb n V d T) : 8 ≤ n ∧ n ≤ 255 ∧ sumA wO V ≤ quotaF n ∧ quotaF n ≤ 2000 := by
 obtain ⟨bb, cb, pb, lb, mb, kb, v, st, f, e, h1, h2, h3, h4, h5, h6⟩ := h
 have hb := h1.bound.1
 refine ⟨h2.eight, by omega, ?_, by unfold quotaF; omega⟩
 rw [← weight_same h1.inv.inv.sorted h3 h4]
 exact h2.quota
theorem PF.lt (h : PF w fb n V1 V2 d T) : ∀ x ∈ T, x < w.heap.size := by
 obtain ⟨bb, cb, g, rfl, h, _⟩ := h
 have := h.1.lt
 have := h.1.lt2
 have := h.1.lt3
 intro x hx
 simp at hx
 omega
theorem PF.same {w' : World} (h : PF w fb n V1 V2 d T) (k : Kept [] w w') : PF w' fb n V1 V2 d T := by
 obtain ⟨bb, cb, g, e, h, hd⟩ := h
 exact ⟨bb, cb, g, e, ⟨h.1.same k, h.2⟩, hd⟩
theorem PF.kept {w' : World} {U : List Nat} (h : PF w fb n V1 V2 d T) (k : Kept U w w') (hU : ∀ x ∈ U, x ∉ T) : PF w' fb n V1 V2 d T := by
 obtain ⟨bb, cb, g, rfl, h, hd⟩ := h
 refine ⟨bb, cb, g, rfl, ⟨h.1.kept k (fun hm => hU _ hm (by simp)) (fun hm => hU _ hm (by simp)) (fun hm => hU _ hm (by simp)), h.2⟩, hd⟩
theorem CrP.mono {f : Fl} {d' : Nat} (h : CrP n f V d) (hd : d ≤ d') : CrP n f V d' := h.vals (fun _ => rfl) hd
theorem PF.mono {d' : Nat} (h : PF w fb n V1 V2 d T) (hd : d ≤ d') : PF w fb n V1 V2 d' T := by
 obtain ⟨bb, cb, g, e, ⟨a, b, c, x⟩, hg⟩ := h
 exact ⟨bb, cb, g, e, ⟨a, b, c, x.imp (·.mono hd) (·.mono hd)⟩, hg⟩
end
end Go.Proofs.YteplbljjlbdhaaaGreatDoor
