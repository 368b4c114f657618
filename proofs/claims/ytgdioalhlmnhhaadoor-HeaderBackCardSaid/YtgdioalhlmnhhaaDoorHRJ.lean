/- Walks and lemmas on the program of this seat, used by its statements; each theorem bears its own conditions. -/
import Derived.Test.YtgdioalhlmnhhaaDoorHRI
import Derived.Test.YtgdioalhlmnhhaaDoorHRH
import Derived.Handy
import Derived.RangeFuncNested
import Derived.RangeFuncBound
import Derived.RangeFuncCalls
import Derived.RangeFuncLeaves
import Derived.Shelf.Abstract
import Derived.Shelf.RegionOpen
import Derived.OwnWalkIn
import Derived.TacticsInMore
import Derived.LoopNIn
import Derived.LoopIn
import Derived.OwnWalk
import Derived.Deep.AppendLies
namespace Go.Proofs.YtgdioalhlmnhhaaDoor
open Go.RowKit
set_option linter.unusedVariables false
set_option linter.unusedSimpArgs false
/-! ### header.Parse -/
section
variable {P : Program} {l n : Nat}
theorem upon_in {o : Oper} {a : Act} {next : Act → World → Prop} {Q : Exit → Act → World → Prop} {r : Result Next} (h : o.upon P a next Q r) : o.uponIn (Fence.wide.inRound l) n P a next Q r := by
  cases r with
  | ok x w' =>
    cases x with
    | value v => exact h
    | skip => exact h
    | defer d => exact h
    | enter f args => exact ⟨fun h => (by cases h), CallsIn.inRound l (callsIn_wide.2 h)⟩
    | row r args => exact ⟨fun h => (by cases h), fun c cs _ => let ⟨v, w', q, s⟩ := h c cs; ⟨v, w', q, stepsIn_wide.2 s⟩⟩
    | round => exact False.elim h
    | _ => exact False.elim h
  | halt h' w' =>
    cases h' with
    | panic v => exact h
    | _ => exact False.elim h
theorem oper_in {o : Oper} {a : Act} {w : World} {K : Act → World → Prop} {Q : Exit → Act → World → Prop} (hd : ∀ c, o.op ≠ .defer c) (h : o.wp P a w K Q) : o.wpIn (Fence.wide.inRound l) n P a w K Q :=
  ⟨fun _ _ => trivial, by rw [Oper.semAt_eq _ _ _ hd]; exact upon_in h⟩
theorem any_in {md : Region.Mode} {ops : Array Oper} {Q : Exit → Act → World → Prop} (hd : ∀ (i : Nat) (o : Oper), ops[i]? = some o → ∀ c, o.op ≠ .defer c) (hno : ¬ LetsOut Q) :
    ∀ (fuel : Nat) (listed : Array Bool) (a : Act) (w : World), wpAny P md ops Q fuel listed a w → wpAnyIn (Fence.wide.inRound l) n P md ops Q fuel listed a w := by
  intro fuel
  induction fuel with
  | zero => intro listed a w h; exact h
  | succ fuel ih =>
    intro listed a w h
    refine ⟨h.1, fun i hi => ?_⟩
    have h2 := h.2 i hi
    unfold wpOp at h2
    unfold wpOpIn
    cases ho : ops[i]? with
    | none => rw [ho] at h2; exact ih _ _ _ h2
    | some o =>
      rw [ho] at h2
      simp only at h2 ⊢
      split at h2
      · rename_i hw
        rw [if_pos hw]
        rcases h2 with h2 | h2
        · exact Oper.wpIn_mono (fun a w h => ih _ _ _ h) (oper_in (hd i o ho) h2)
        · exact absurd h2.2 hno
      · rename_i hw
        rw [if_neg hw]
        exact ⟨fun _ _ => trivial, ih _ _ _ h2⟩
end
def notDefer : Op → Bool
  | .defer _ => false
  | _ => true
theorem nd_of {ops : Array Oper} (h : ops.toList.all (fun o => notDefer o.op) = true) : ∀ (i : Nat) (o : Oper), ops[i]? = some o → ∀ c, o.op ≠ .defer c := by
  intro i o ho c e
  rw [← Array.getElem?_toList] at ho
  have := List.all_eq_true.1 h o (List.mem_of_getElem? ho)
  rw [e] at this; cases this
/-- A drawn region within a round, out of its walk by the plain laws. -/
theorem region_in {P : Program} {l n : Nat} {id : Nat} {ops : Array Oper} {Q : Exit → Act → World → Prop} {a : Act} {w : World} (hm : P.follows .mixedOrders = true) (hd : ops.toList.all (fun o => notDefer o.op) = true) (hno : ¬ LetsOut Q)
    (h : wpAny P .any ops Q ops.size (Array.replicate ops.size false) a w.drew) : (Code.region id ops true).wpIn (Fence.wide.inRound l) n P Q a w :=
  wpIn_region_any hm (any_in (nd_of hd) hno _ _ _ _ h)
/-- All that a round of header.Parse may turn of what was there: block b, and cells from B on. -/
structure Near (B b : Nat) (W W' : World) : Prop where
  os : W'.os = W.os
  tape : W'.tape = W.tape
  output : W'.output = W.output
  size : W.heap.size ≤ W'.heap.size
  block : ∀ (k : Nat) (o : Obj), W.heap[k]? = some o → k ≠ b → (k < B ∨ o.isCells = false) → W'.heap[k]? = some o
theorem Near.of {B b : Nat} {W W' : World} (k : Kept [b] W W') : Near B b W W' := ⟨k.os, k.tape, k.output, k.size, fun j o h hj _ => (k.block j (lt_of_block h) (by simpa using hj)).trans h⟩
theorem Near.trans {B b : Nat} {W W' W2 : World} (h : Near B b W W') (k : Kept [b] W' W2) : Near B b W W2 :=
  ⟨k.os.trans h.os, k.tape.trans h.tape, k.output.trans h.output, Nat.le_trans h.size k.size, fun j o h1 hj h2 => (k.block j (lt_of_block (h.block j o h1 hj h2)) (by simpa using hj)).trans (h.block j o h1 hj h2)⟩
theorem Near.grown {B b : Nat} {W W' W2 : World} {row : Option Nat} (h : Near B b W W') (g : W'.grownBy W2 row) (hr : ∀ q, row = some q → B ≤ q ∧ ∃ cs t, W'.heap[q]? = some (.cells cs t (0, 0))) : Near B b W W2 :=
  ⟨g.os.trans h.os, g.tape.trans h.tape, g.output.trans h.output, Nat.le_trans h.size g.size, fun j o h1 hj h2 => by
    have h3 := h.block j o h1 hj h2
    refine (g.block j (lt_of_block h3) (fun e => ?_)).trans h3
    obtain ⟨h4, cs, t, h5⟩ := hr j e.symm
    rcases h2 with h2 | h2
    · omega
    · rw [h5] at h3; cases h3; cases h2⟩
theorem Near.kept {B b : Nat} {a W W' : World} (h : Kept [] a W) (n : Near B b W W') (hB : a.heap.size ≤ B) (hb : a.heap.size ≤ b) : Kept [] a W' :=
  ⟨n.os.trans h.os, n.tape.trans h.tape, n.output.trans h.output, Nat.le_trans h.size n.size, fun k hk hn => by
    have h1 := h.block k hk hn
    cases ho : a.heap[k]? with
    | none => rw [Array.getElem?_eq_none_iff] at ho; omega
    | some o => rw [ho] at h1; exact n.block k o h1 (by omega) (.inl (by omega))⟩
theorem RoundKeeps.of {B B' bx b : Nat} {W W' : World} {cs : Array Value} {t : TypeId} (k : Near B' b W W') (hx : bx < W.heap.size) (hx2 : bx < B') (hne : bx ≠ b) (hb : W.heap[b]? = some (.cells cs t (0, 0))) : RoundKeeps B bx W W' :=
  ⟨k.size, by
    have h1 := Array.getElem?_eq_getElem hx
    rw [h1]; exact k.block bx _ h1 hne (.inl hx2), fun j o _ hj ho => k.block j o hj (by intro e; subst e; rw [hb] at hj; cases hj; cases ho) (.inr ho)⟩
theorem OwnT.cells {B : Nat} {w : World} {v : Value} {l : List (List UInt8)} (h : OwnT B w v l) : ∀ q, v.ownBlock = some q → B ≤ q ∧ ∃ cs t, w.heap[q]? = some (.cells cs t (0, 0)) := by
  intro q hq
  rcases h.2 with ⟨rfl, hn⟩ | ⟨g, cap, cur, rfl, hb, hg, _⟩
  · cases hq
  · cases hq; exact ⟨hb, _, _, hg⟩
attribute [local go_sem] Oper.semAt_some
theorem linesNew_any (s : List UInt8) (w : World) : Calls Tryd.prog 64 #[S s] w fun e w' => e = .returned (.func (.func 97) #[] #[.pointer (some ⟨w.heap.size, 0, none⟩)]) ∧ w' = w.alloc (.cells #[S s] 9) := by
  go_enter Tryd.func64, Tryd.ntmps64
  go_wp2
  go_ret
  exact ⟨rfl, rfl⟩
structure TH (w : World) : Prop where
  tabs : Tabs w
  pow : PT w
  syn : ∃ tp p, w.var? Tryd.prog "strconv.ErrSyntax" = some #[.iface tp p]
  rng : ∃ tp p, w.var? Tryd.prog "strconv.ErrRange" = some #[.iface tp p]
theorem TH.kept {w w' : World} (h : TH w) (k : Kept [] w w') : TH w' := by
  obtain ⟨h1, h2, ⟨a, b, h3⟩, ⟨c, d, h4⟩⟩ := h
  exact ⟨h1.kept k, h2.kept k, ⟨a, b, var_kept h3 k⟩, ⟨c, d, var_kept h4 k⟩⟩
theorem atoi_any (l : List UInt8) (w : World) (hl : l.length ≤ 3000) (hT : TH w) :
    Calls Tryd.prog 66 #[S l] w fun e w' => ∃ er, e = .returned (.tuple #[I (WX.atoiV l), er]) ∧ Kept [] w w' := by
  have hsz : (⟨l.toArray⟩ : ByteArray).size ≤ 3000 := by show l.toArray.size ≤ _; simpa using hl
  cases ha : Lib.atoiAll l with
  | ok v =>
    refine (Tryd.strconv_Atoi_ok ⟨l.toArray⟩ (by omega) v ha w).mono ?_
    rintro e w' ⟨rfl, hw⟩
    refine ⟨_, by unfold WX.atoiV; rw [ha], ?_⟩
    rcases hw with rfl | ⟨t, rfl⟩
    · exact Kept.refl _ _
    · exact Kept.of_below (Lib.bytesWorld_below _ _ _) (Nat.le_refl _)
  | «syntax» =>
    obtain ⟨tp, p, hv⟩ := hT.syn
    refine (Tryd.strconv_Atoi_syntax_var ⟨l.toArray⟩ (by omega) ha tp p w hv).mono ?_
    rintro e w' ⟨N, rfl, _, _, hb⟩
    exact ⟨_, by unfold WX.atoiV; rw [ha], Kept.of_below hb (Nat.le_refl _)⟩
  | range =>
    obtain ⟨tp, p, hv⟩ := hT.rng
    refine (Tryd.strconv_Atoi_range_var ⟨l.toArray⟩ (by omega) ha tp p w hv).mono ?_
    rintro e w' ⟨N, rfl, _, _, hb⟩
    exact ⟨_, by unfold WX.atoiV; rw [ha], Kept.of_below hb (Nat.le_refl _)⟩
theorem atoiV_bounds (l : List UInt8) : -9223372036854775808 ≤ WX.atoiV l ∧ WX.atoiV l ≤ 9223372036854775807 := by
  unfold WX.atoiV
  split
  · rename_i v h; exact Lib.atoiAll_bounds h
  · omega
  · exact Lib.atoiSat_bounds l
theorem OwnT.turn {B B0 bx : Nat} {w w' : World} {v : Value} {l : List (List UInt8)} (h : OwnT B0 w v l) (t : Turn B bx w w') (hx : bx < B0) : OwnT B0 w' v l := by
  refine ⟨h.1, ?_⟩
  rcases h.2 with h0 | ⟨g, cap, cur, e, hb, hg, hr⟩
  · exact .inl h0
  · exact .inr ⟨g, cap, cur, e, hb, t.block g _ hg (by omega) (.inr rfl), hr⟩
theorem PR.turn {B b B' bx : Nat} {w w' : World} {h : WX.Hr} {v : Value} (H : PR B b w h v) (t : Turn B' bx w w') (hx : bx < B) (hne : b ≠ bx) : PR B b w' h v :=
  ⟨t.block b _ H.blk hne (.inr rfl), H.own.turn t hx, H.lt⟩
/-- between two rounds of header.Parse -/
def PInv (w : World) (pre : List (List UInt8)) (W : World) : Prop :=
  (∃ v, PR (w.heap.size + 1 + 1 + 1) (w.heap.size + 1) W (pre.foldl WX.takeP WX.zeroR) v) ∧ W.heap[w.heap.size]? = some (.cells #[S [], nilV, I 0] HrT (0, 0)) ∧ Kept [] w W ∧ (pre.foldl WX.takeP WX.zeroR).ds.length ≤ 9 ∧ w.heap.size + 1 + 1 < W.heap.size
theorem PInv.turn {w W W' : World} {pre : List (List UInt8)} {B : Nat} (h : PInv w pre W) (t : Turn B (w.heap.size + 1 + 1) W W') (hB : w.heap.size ≤ B) : PInv w pre W' := by
  obtain ⟨⟨v, h1⟩, h2, h3, h4, h5⟩ := h
  exact ⟨⟨v, h1.turn t (by omega) (by omega)⟩, t.block _ _ h2 (by omega) (.inr rfl), h3.turn t hB (by omega), h4, Nat.lt_of_lt_of_le h5 t.size⟩
theorem kind_ways (x : List UInt8) :
    (WX.kindL x = [110, 97, 109, 101, 32] ∧ (∀ h : WX.Hr, WX.takeP h x = { h with nm := x.drop 5 }) ∧ (5 : Int) ≤ x.length) ∨
    (WX.kindL x = [100, 101, 118, 105, 99, 101, 32] ∧ (∀ h : WX.Hr, WX.takeP h x = if h.ds.length ≤ 8 then { h with ds := h.ds ++ [x.drop 7] } else h) ∧ (7 : Int) ≤ x.length) ∨
    (WX.kindL x = [115, 105, 122, 101, 32] ∧ (∀ h : WX.Hr, WX.takeP h x = { h with sz := WX.atoiV (x.drop 5) }) ∧ (5 : Int) ≤ x.length) ∨
    (WX.kindL x = [] ∧ ∀ h : WX.Hr, WX.takeP h x = h) := by
  unfold WX.kindL WX.takeP
  by_cases h1 : WX.isK WX.nameP x = true
  · left
    have := WX.isK_len h1
    have e : WX.nameP.length = 5 := rfl
    rw [if_pos h1]
    exact ⟨rfl, fun h => by rw [if_pos h1], by omega⟩
  · by_cases h2 : WX.isK WX.devP x = true
    · right; left
      have := WX.isK_len h2
      have e : WX.devP.length = 7 := rfl
      rw [if_neg h1, if_pos h2]
      exact ⟨rfl, fun h => by rw [if_neg h1, if_pos h2], by omega⟩
    · by_cases h3 : WX.isK WX.sizeP x = true
      · right; right; left
        have := WX.isK_len h3
        have e : WX.sizeP.length = 5 := rfl
        rw [if_neg h1, if_neg h2, if_pos h3]
        exact ⟨rfl, fun h => by rw [if_neg h1, if_neg h2, if_pos h3], by omega⟩
      · right; right; right
        rw [if_neg h1, if_neg h2, if_neg h3]
        exact ⟨rfl, fun h => by rw [if_neg h1, if_neg h2, if_neg h3]⟩
/-! ### header.why: how often -/
def cnt (pre : List (List UInt8)) (y : List UInt8) : Nat := (pre.flatMap fun x => [WX.kindL x, x]).count y
theorem cnt_snoc (pre : List (List UInt8)) (x y : List UInt8) : cnt (pre ++ [x]) y = cnt pre y + ((if WX.kindL x = y then 1 else 0) + (if x = y then 1 else 0)) := by
  unfold cnt
  rw [List.flatMap_append, List.count_append]
  simp only [List.flatMap_cons, List.flatMap_nil, List.append_nil, List.count_cons, List.count_nil, beq_iff_eq]
  omega
theorem cnt_le (pre : List (List UInt8)) (y : List UInt8) : cnt pre y ≤ 2 * pre.length := by
  unfold cnt
  refine Nat.le_trans List.count_le_length ?_
  rw [List.length_flatMap]
  induction pre with
  | nil => simp
  | cons x pre ih => simp at ih ⊢; omega
theorem kindL_cases (x : List UInt8) : WX.kindL x = WX.nameP ∧ WX.isK WX.nameP x = true ∨ WX.kindL x = WX.devP ∧ WX.isK WX.devP x = true ∨ WX.kindL x = WX.sizeP ∧ WX.isK WX.sizeP x = true ∨ WX.kindL x = [] := by
  unfold WX.kindL
  split
  · rename_i h; exact .inl ⟨rfl, h⟩
  · split
    · rename_i h; exact .inr (.inl ⟨rfl, h⟩)
    · split
      · rename_i h; exact .inr (.inr (.inl ⟨rfl, h⟩))
      · exact .inr (.inr (.inr rfl))
theorem kindL_is (x : List UInt8) (k : List UInt8) (hk : k = WX.nameP ∨ k = WX.devP ∨ k = WX.sizeP) : WX.kindL x = k ↔ WX.isK k x = true := by
  have o := @one_kind x
  have d1 : WX.nameP ≠ WX.devP := by decide
  have d2 : WX.nameP ≠ WX.sizeP := by decide
  have d3 : WX.devP ≠ WX.sizeP := by decide
  have d4 : WX.nameP ≠ [] := by decide
  have d5 : WX.devP ≠ [] := by decide
  have d6 : WX.sizeP ≠ [] := by decide
  constructor
  · intro h
    rcases kindL_cases x with ⟨e, h1⟩ | ⟨e, h1⟩ | ⟨e, h1⟩ | e
    · rw [← h, e]; exact h1
    · rw [← h, e]; exact h1
    · rw [← h, e]; exact h1
    · rw [e] at h; subst h
      rcases hk with h | h | h
      · exact absurd h.symm d4
      · exact absurd h.symm d5
      · exact absurd h.symm d6
  · intro h
    unfold WX.kindL
    rcases hk with rfl | rfl | rfl
    · rw [if_pos h]
    · rw [if_neg (by rw [(o.2.1 h).1]; simp), if_pos h]
    · rw [if_neg (by rw [(o.2.2 h).1]; simp), if_neg (by rw [(o.2.2 h).2]; simp), if_pos h]
theorem kinds_none (k : List UInt8) (hk : k = WX.nameP ∨ k = WX.devP ∨ k = WX.sizeP) : WX.kindL k = [] := by rcases hk with rfl | rfl | rfl <;> decide
/-- what is counted at a kind -/
theorem cnt_kind (pre : List (List UInt8)) (ha : ∀ x ∈ pre, WX.kindL x ≠ []) (k : List UInt8) (hk : k = WX.nameP ∨ k = WX.devP ∨ k = WX.sizeP) : cnt pre k = WX.kindN k pre := by
  induction pre with
  | nil => rfl
  | cons x pre ih =>
    have ih := ih fun y hy => ha y (by simp [hy])
    have hx := ha x (by simp)
    have hne : x ≠ k := by rintro rfl; exact hx (kinds_none x hk)
    unfold cnt WX.kindN at ih ⊢
    rw [List.flatMap_cons, List.count_append, ih, List.countP_cons]
    by_cases h : WX.isK k x = true
    · rw [h, (kindL_is x k hk).2 h]; simp [hne]; omega
    · have h2 : WX.kindL x ≠ k := fun e => h ((kindL_is x k hk).1 e)
      simp [h, h2, hne]
/-- what is counted at a line -/
theorem cnt_line (pre : List (List UInt8)) (y : List UInt8) (hy : WX.kindL y ≠ []) : cnt pre y = pre.count y := by
  induction pre with
  | nil => rfl
  | cons x pre ih =>
    unfold cnt at ih ⊢
    rw [List.flatMap_cons, List.count_append, ih, List.count_cons]
    have hne : WX.kindL x ≠ y := by
      intro e
      rcases kindL_cases x with ⟨h, _⟩ | ⟨h, _⟩ | ⟨h, _⟩ | h
      · exact hy (by rw [← e, h]; exact kinds_none _ (.inl rfl))
      · exact hy (by rw [← e, h]; exact kinds_none _ (.inr (.inl rfl)))
      · exact hy (by rw [← e, h]; exact kinds_none _ (.inr (.inr rfl)))
      · exact hy (by rw [← e, h]; decide)
    simp [List.count_cons, hne]; omega
theorem twiceB_eq (l : List (List UInt8)) : WX.twiceB l = (ndB l || (decide (1 < WX.kindN WX.nameP l) || decide (1 < WX.kindN WX.sizeP l))) := rfl
theorem twice_snoc (pre : List (List UInt8)) (x : List UInt8) (ha : ∀ y ∈ pre ++ [x], WX.kindL y ≠ []) :
    WX.twiceB (pre ++ [x]) = (WX.twiceB pre || (decide (1 < cnt (pre ++ [x]) x) || (WX.kindL x != WX.devP && decide (1 < cnt (pre ++ [x]) (WX.kindL x))))) := by
  have hx := ha x (by simp)
  have hn : ndB (pre ++ [x]) = (ndB pre || decide (1 < cnt (pre ++ [x]) x)) := by
    have e := ndB_snoc (pre ++ [x]) pre.length (by simp)
    rw [List.take_of_length_le (by simp), List.take_left] at e
    have e2 : (pre ++ [x]).getD pre.length [] = x := by simp [List.getD]
    rw [e2] at e
    rw [e, cnt_line _ x hx, List.count_append]
    congr 1
    rw [Bool.eq_iff_iff, List.contains_iff_mem, decide_eq_true_iff, ← List.count_pos_iff]
    simp
  rw [twiceB_eq, twiceB_eq, hn]
  have kn : ∀ k, WX.kindN k (pre ++ [x]) = WX.kindN k pre + (if WX.isK k x = true then 1 else 0) := by
    intro k; unfold WX.kindN; rw [List.countP_append, List.countP_cons, List.countP_nil]; simp
  have o := @one_kind x
  rcases kindL_cases x with ⟨h, h1⟩ | ⟨h, h1⟩ | ⟨h, h1⟩ | h
  · rw [h, cnt_kind _ ha _ (.inl rfl), kn, kn, if_pos h1, if_neg (by rw [(o.1 h1).2]; simp)]
    have : (WX.nameP != WX.devP) = true := by decide
    rw [this]
    cases ndB pre <;> cases decide (1 < cnt (pre ++ [x]) x) <;> simp
    by_cases hz : 1 < WX.kindN WX.sizeP pre
    · simp [hz]
    · by_cases hw : 1 < WX.kindN WX.nameP pre
      · simp [hw]; omega
      · simp [hz, hw]
  · rw [h, kn, kn, if_neg (by rw [(o.2.1 h1).1]; simp), if_neg (by rw [(o.2.1 h1).2]; simp)]
    have : (WX.devP != WX.devP) = false := by decide
    rw [this]
    cases ndB pre <;> cases decide (1 < cnt (pre ++ [x]) x) <;> simp
  · rw [h, cnt_kind _ ha _ (.inr (.inr rfl)), kn, kn, if_pos h1, if_neg (by rw [(o.2.2 h1).1]; simp)]
    have : (WX.sizeP != WX.devP) = true := by decide
    rw [this]
    cases ndB pre <;> cases decide (1 < cnt (pre ++ [x]) x) <;> simp
    by_cases hz : 1 < WX.kindN WX.sizeP pre
    · simp [hz]; omega
    · simp [hz]
  · exact absurd h hx
theorem suffix_ends (s : List UInt8) : Lib.hasSuffix s [10] = WX.ends10 s := by
  unfold Lib.hasSuffix WX.ends10
  rw [Bool.eq_iff_iff, List.isSuffixOf_iff_suffix, beq_iff_eq, List.getLast?_eq_some_iff]
  constructor
  · rintro ⟨t, h⟩; exact ⟨t, h.symm⟩
  · rintro ⟨t, h⟩; exact ⟨t, h.symm⟩
theorem suffixNl_any (s : List UInt8) (w : World) (hs : s.length ≤ 3000) : Calls Tryd.prog 102 #[S s, S [10]] w fun e w' => e = .returned (.bool (WX.ends10 s)) ∧ w = w' :=
  (Tryd.strings_HasSuffix ⟨s.toArray⟩ ⟨#[10]⟩ w (by show s.toArray.size ≤ _; rw [List.size_toArray]; omega)).mono fun e w' ⟨h1, h2⟩ => ⟨by rw [h1, ← suffix_ends], h2.symm⟩
end Go.Proofs.YtgdioalhlmnhhaaDoor
