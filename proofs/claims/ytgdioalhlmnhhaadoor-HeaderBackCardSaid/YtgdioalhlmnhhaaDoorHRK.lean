/- Walks and lemmas on the program of this seat, used by its statements; each theorem bears its own conditions. -/
import Derived.Test.YtgdioalhlmnhhaaDoorHRJ
import Derived.Handy
import Derived.RangeFuncNested
import Derived.RangeFuncBound
import Derived.RangeFuncCalls
import Derived.RangeFuncLeaves
import Derived.Shelf.Abstract
import Derived.Shelf.RegionOpen
import Derived.OwnWalkIn
import Derived.TacticsInMore
import Derived.LoopNIn
import Derived.LoopIn
import Derived.OwnWalk
import Derived.Maps.Own
import Derived.Maps.OwnSet
import Derived.Maps.OwnIn
import Derived.Maps.Views
namespace Go.Proofs.YtgdioalhlmnhhaaDoor
open Go.RowKit
set_option linter.unusedVariables false
set_option linter.unusedSimpArgs false
/-! ### header.why: the map that counts -/
section
open Go.Maps
abbrev cntT : DataW Unit := .lit (.int .i64 0)
/-- Block b is a map of at most n entries, at which key y reads f y. -/
def CntMap (b n : Nat) (W : World) (f : List UInt8 → Nat) : Prop := ∃ D : DataW Unit, W.ownsMap Tryd.prog 9 (plainElem Tryd.prog 3) b n D ∧ IsMap D ∧ ∀ y, D.atKey (.string y) (.lit (.int .i64 0)) = .lit (.int .i64 (f y))
theorem CntMap.made (w : World) : CntMap w.heap.size 0 (w.alloc (.map #[] 0)) (fun _ => 0) := ⟨.map [], World.ownsMap_made _ _ _ _, isMap_empty, fun y => by simp [DataW.atKey]⟩
theorem CntMap.kept {b n : Nat} {W W' : World} {f : List UInt8 → Nat} (h : CntMap b n W f) (hk : ∀ o, W.heap[b]? = some o → W'.heap[b]? = some o) : CntMap b n W' f := by
  obtain ⟨D, ⟨es, clock, hb, r⟩, h2, h3⟩ := h
  exact ⟨D, ⟨es, clock, hk _ hb, r⟩, h2, h3⟩
theorem CntMap.mono {b n n' : Nat} {W : World} {f : List UInt8 → Nat} (h : CntMap b n W f) (hn : n ≤ n') : CntMap b n' W f := by
  obtain ⟨D, h1, h2, h3⟩ := h
  exact ⟨D, h1.mono hn, h2, h3⟩
theorem CntMap.lt {b n : Nat} {W : World} {f : List UInt8 → Nat} (h : CntMap b n W f) : b < W.heap.size := by
  obtain ⟨D, h1, _⟩ := h
  exact h1.lt
theorem int_zero (W : World) : (zeroValue 3).run Tryd.prog W = .ok (I 0) W := by
  exact Tryd.zeroValue3 W
theorem wfI (v : Int) (h0 : 0 ≤ v) (h1 : v ≤ 20000) : (Lit.int .i64 v).wf = true := by
  have e1 : IntKind.i64.min = -9223372036854775808 := by decide
  have e2 : IntKind.i64.max = 9223372036854775807 := by decide
  simp only [Lit.wf, e1, e2, Bool.and_eq_true, decide_eq_true_eq]; omega
theorem CntMap.look {b n : Nat} {W : World} {f : List UInt8 → Nat} (h : CntMap b n W f) (y : List UInt8) (hy : y.length ≤ 3000) : (Instr.lookup 121 (.map (some b)) (S y) false).run Tryd.prog W = .ok (I (f y)) W := by
  obtain ⟨D, h1, _, h2⟩ := h
  obtain ⟨c, hr, hc, _⟩ := h1.lookup_int strKey Tryd.underlying121 Tryd.underlying3 (int_zero W) (key_S y (by omega))
  rw [h2] at hc
  have hc2 : (f y : Int) = c := (Lit.int.inj (DataW.lit.inj hc)).2
  rw [hr, hc2]
theorem CntMap.store {b n : Nat} {W : World} {f : List UInt8 → Nat} (h : CntMap b n W f) (y : List UInt8) (hy : y.length ≤ 3000) (hn : n < 10000) (v : Int) (hv : v = (f y : Int) + 1) (hb : f y < 10000) :
    ∃ W', (Instr.mapUpdate 121 (.map (some b)) (S y) (I v)).run Tryd.prog W = .ok () W' ∧ CntMap b (n + 1) W' (fun z => f z + (if y = z then 1 else 0)) ∧ W.grownBy W' (some b) := by
  obtain ⟨D, h1, h2, h3⟩ := h
  obtain ⟨W', hr, o, g⟩ := h1.update strKey Tryd.underlying121 (by unfold maxLen; omega) (key_S y (by omega)) (plainElem_int Tryd.underlying3 (a := v) (wfI v (by omega) (by omega)))
  refine ⟨W', hr, ⟨_, o, h2.put _ _, fun z => ?_⟩, g⟩
  by_cases hz : y = z
  · subst hz
    rw [atKey_put_same (k := .string y) h2 trivial, hv]; simp
  · rw [atKey_put_other (by intro e; injection e with e; exact hz e.symm), h3]; simp [hz]
theorem wpListIn_cnt {F : Fence} {nF : Nat} (w : World) {ops : Array Oper} {rest : List Oper} {o : Oper} {a : Act} {Q : Exit → Act → World → Prop}
    (hg : o.guard = none) (m x v : Operand) (hop : o.op = Op.mapUpdate 121 m x v) (b n : Nat) (f : List UInt8 → Nat)
    (hm : a.eval m = .map (some b)) (hown : CntMap b n w f) (hn : n < 10000) (y : List UInt8) (hx : a.eval x = S y) (hy : y.length ≤ 3000) (z : Int) (hv : a.eval v = I z) (hz : z = (f y : Int) + 1) (hb : f y < 10000)
    (hK : ∀ w', CntMap b (n + 1) w' (fun z => f z + (if y = z then 1 else 0)) → w.grownBy w' (some b) → wpListIn F nF Tryd.prog ops Q rest (a.put o.dst undef) w') :
    wpListIn F nF Tryd.prog ops Q (o :: rest) a w := by
  refine wpListIn_plain hg fun K' hK' => ?_
  obtain ⟨w', hrun, r1, r2⟩ := hown.store y hy hn z hz hb
  unfold Oper.wpIn
  refine ⟨by simp [Oper.about, hop], ?_⟩
  rw [Oper.semAt_plain F _ _ (by rw [hop]; intro c hc'; cases hc')]
  simp [execOp, hop, hm, hx, hv, hrun, Result.andThen]
  exact hK' _ _ (hK w' r1 r2)
end
end Go.Proofs.YtgdioalhlmnhhaaDoor
