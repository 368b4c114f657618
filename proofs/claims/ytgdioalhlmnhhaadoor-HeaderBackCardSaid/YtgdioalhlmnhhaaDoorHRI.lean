/- Walks and lemmas on the program of this seat, used by its statements; each theorem bears its own conditions. -/
import Derived.Test.YtgdioalhlmnhhaaDoorHRF
import Derived.Handy
import Derived.RangeFuncNested
import Derived.RangeFuncBound
import Derived.RangeFuncCalls
import Derived.RangeFuncLeaves
import Derived.Shelf.Abstract
import Derived.Shelf.RegionOpen
import Derived.OwnWalkIn
import Derived.TacticsInMore
import Derived.LoopNIn
import Derived.LoopIn
namespace Go.Proofs.YtgdioalhlmnhhaaDoor
open Go.RowKit
set_option linter.unusedVariables false
set_option linter.unusedSimpArgs false
/-! ### A loop over lines -/
/-- What a loop over lines may turn beside its own rounds: blocks that are no cells, from B on, and the cell in which the text stands. -/
structure Turn (B bx : Nat) (W W' : World) : Prop where
  os : W'.os = W.os
  tape : W'.tape = W.tape
  output : W'.output = W.output
  size : W.heap.size ≤ W'.heap.size
  block : ∀ (k : Nat) (o : Obj), W.heap[k]? = some o → k ≠ bx → (k < B ∨ o.isCells = true) → W'.heap[k]? = some o
theorem Turn.alloc (B bx : Nat) (W : World) (o : Obj) : Turn B bx W (W.alloc o) := ⟨rfl, rfl, rfl, by simp, fun k o' h _ _ => (Below.heap_alloc W o k (lt_of_block h)).trans h⟩
theorem Turn.put (B bx : Nat) (W : World) {l : Nat} {o : Obj} (o' : Obj) (hl : W.heap[l]? = some o) (hB : B ≤ l) (ho : o.isCells = false) : Turn B bx W (W.putObj l o') :=
  ⟨rfl, rfl, rfl, by simp, fun k o2 h _ hk => by
    have hne : k ≠ l := by
      intro e; subst e; rw [hl] at h; cases h
      rcases hk with hk | hk
      · omega
      · rw [ho] at hk; cases hk
    exact (World.putObj_heap_other hne).trans h⟩
theorem Turn.drewN (B bx : Nat) (W : World) (n : Nat) : Turn B bx W (W.drewN n) := ⟨rfl, rfl, rfl, Nat.le_refl _, fun k o h _ _ => h⟩
theorem Turn.box (B bx : Nat) (W : World) (i : Nat) (v : Value) : Turn B bx W (W.setCell ⟨bx, i, none⟩ v) :=
  ⟨rfl, rfl, rfl, by simp [World.setCell], fun k o h hk _ => (Below.heap_setCell W _ _ _ hk).trans h⟩
theorem Kept.turn {a W W' : World} {B bx : Nat} (h : Kept [] a W) (t : Turn B bx W W') (hB : a.heap.size ≤ B) (hx : a.heap.size ≤ bx) : Kept [] a W' :=
  ⟨t.os.trans h.os, t.tape.trans h.tape, t.output.trans h.output, Nat.le_trans h.size t.size, fun k hk hn => by
    have h1 := h.block k hk hn
    cases ho : a.heap[k]? with
    | none => rw [Array.getElem?_eq_none_iff] at ho; omega
    | some o => rw [ho] at h1; exact t.block k o h1 (by omega) (.inl (by omega))⟩
/-- What a round keeps: the cell in which the text stands; what is no cells from B on. -/
structure RoundKeeps (B bx : Nat) (W W' : World) : Prop where
  size : W.heap.size ≤ W'.heap.size
  box : W'.heap[bx]? = W.heap[bx]?
  same : ∀ (k : Nat) (o : Obj), B ≤ k → W.heap[k]? = some o → o.isCells = false → W'.heap[k]? = some o
abbrev boxAt (bx : Nat) (W : World) (s : List UInt8) : Prop := W.heap[bx]? = some (.cells #[S s] 9 (0, 0))
theorem cutA_take (s : List UInt8) : s.take (WX.cutA s).length = WX.cutA s := by
  induction s with
  | nil => rfl
  | cons b s ih =>
    unfold WX.cutA at ih ⊢
    rw [List.takeWhile_cons]
    split
    · rw [List.length_cons, List.take_succ_cons, ih]
    · rfl
theorem index_line (s : List UInt8) : (Lib.index s [10] = -1 ∧ WX.cutA s = s) ∨ (Lib.index s [10] = (WX.cutA s).length ∧ (WX.cutA s).length < s.length) := by
  induction s with
  | nil => left; exact ⟨by simp [Lib.index], rfl⟩
  | cons b s ih =>
    by_cases hb : b = 10
    · subst hb
      right
      have e : WX.cutA (10 :: s) = [] := rfl
      rw [e]
      refine ⟨?_, by simp⟩
      rw [Lib.index]; simp [List.isPrefixOf]
    · have e : WX.cutA (b :: s) = b :: WX.cutA s := by unfold WX.cutA; rw [List.takeWhile_cons, if_pos (by simpa using hb)]
      rw [WX.index_ne b 10 s hb, e]
      rcases ih with ⟨h1, h2⟩ | ⟨h1, h2⟩
      · left; rw [h1, h2]; exact ⟨by simp, rfl⟩
      · right
        rw [h1]
        refine ⟨?_, by simp; omega⟩
        rw [if_neg (by simp)]; simp
theorem cut_lines (s : List UInt8) : (Lib.cut s [10]).1 = WX.cutA s ∧ (Lib.cut s [10]).2.1 = WX.cutZ s := by
  unfold Lib.cut
  rcases index_line s with ⟨h1, h2⟩ | ⟨h1, h2⟩
  · rw [h1, if_neg (by omega)]
    refine ⟨h2.symm, ?_⟩
    unfold WX.cutZ
    rw [h2, List.drop_of_length_le (by omega)]
  · rw [h1, if_pos (by omega)]
    refine ⟨?_, ?_⟩
    · rw [Int.toNat_natCast]; exact cutA_take s
    · rw [Int.toNat_natCast]; rfl
theorem linesCut (s : List UInt8) (m : Int) (w : World) (hs : s.length ≤ 3000) (hm : w.cell? ⟨0, 0, none⟩ = some (.int .i64 m)) :
    Calls Tryd.prog 54 #[S s, S [10]] w fun e w' => ∃ b n, e = .returned (.tuple #[S (WX.cutA s), S (WX.cutZ s), .bool b]) ∧ w' = w.drewN n := by
  refine (Tryd.strings_Cut ⟨s.toArray⟩ ⟨#[10]⟩ m w (by show s.toArray.size < _; simp; omega) hm).mono ?_
  rintro e w' ⟨rfl, n, rfl⟩
  obtain ⟨h1, h2⟩ := cut_lines s
  exact ⟨_, n, by rw [← h1, ← h2], rfl⟩
def LinesEnd (J Jx : List (List UInt8) → World → Prop) (s : List UInt8) (e : Ending) (W' : World) : Prop := (∃ v, e = .returned v) ∧ (J (WX.linesG s) W' ∨ ∃ pre, Jx pre W')
def textLen : Option Value → Nat
  | some (.string s) => s.size
  | _ => 0
attribute [local go_sem] Oper.semAt_some
set_option maxRecDepth 100000 in
set_option maxHeartbeats 2000000 in
/-- The closure that 'lines' hands back: whatever the rounds are. -/
theorem lines1_in (n : Nat) (l bx : Nat) (s0 : List UInt8) (hs : s0.length ≤ 3000) (J Jx : List (List UInt8) → World → Prop)
    (hJd : ∀ pre W k, J pre W → J pre (W.drewN k)) (hJb : ∀ pre W v, J pre W → J pre (W.setCell ⟨bx, 0, none⟩ v)) (hJm : ∀ pre W, J pre W → ML W)
    (hY : ∀ pre x rest W, WX.linesG s0 = pre ++ x :: rest → J pre W → YieldAt Fence.wide (n - 1) Tryd.prog l #[S x] W fun e W' =>
      (e = .returned (.bool true) ∧ J (pre ++ [x]) W' ∧ W'.heap[bx]? = W.heap[bx]?) ∨ (e = .returned (.bool false) ∧ Jx (pre ++ [x]) W'))
    (W : World) (hb : boxAt bx W s0) (h0 : J [] W) :
    CallsIn Fence.wide n Tryd.prog 97 #[.func (.yield l) #[] #[], .pointer (some ⟨bx, 0, none⟩)] W (LinesEnd J Jx s0) := by
  have HY := Lib.hid hY
  have HD := Lib.hid (And.intro hJd (And.intro hJb hJm))
  clear hY hJd hJb hJm
  refine callsIn_of_wp Tryd.func97 rfl trivial ?_ rfl
  simp only [Tryd.ntmps97, List.size_toArray, List.length_cons, List.length_nil, Nat.reduceAdd, Nat.reduceSub, Array.replicate_succ, Array.replicate_zero, List.push_toArray, List.append_toArray, List.nil_append, List.cons_append]
  gi_wp2
  gi_loopw [3] (fun _ wr => ∃ (pre : List (List UInt8)) (s : List UInt8), WX.linesG s0 = pre ++ WX.linesG s ∧ s.length ≤ 3000 ∧ boxAt bx wr s ∧ J pre wr) (fun _ wr => textLen (wr.cell? ⟨bx, 0, none⟩))
  case atStart => exact ⟨[], s0, rfl, hs, hb, h0⟩
  case round =>
    clear hb h0
    obtain ⟨pre, s, hpre, hsl, hb, hj⟩ := hrel
    have HB := Lib.hid (And.intro hpre (And.intro hb hj))
    have c0 : wr.cell? ⟨bx, 0, none⟩ = some (S s) := cell_at hb 0
    have f0 : wr.frozen? ⟨bx, 0, none⟩ = false := free_at hb 0
    obtain ⟨m, hm⟩ := HD.out.2.2 pre wr hj
    have HML := Lib.hid hm
    clear hpre hb hj hm
    by_cases hne : s = []
    · subst hne
      gi_wp2
      go_end0
      exact ⟨⟨_, rfl⟩, .inl (by have := HB.out.1; rw [show WX.linesG [] = [] from rfl, List.append_nil] at this; rw [this]; exact HB.out.2.2)⟩
    · have hse : s.isEmpty = false := by cases s; exact absurd rfl hne; rfl
      have HC := Lib.hid (linesCut s m wr hsl HML.out)
      have HG := Lib.hid (WX.linesG_cut s hne)
      have hzl : (WX.cutZ s).length ≤ 3000 := by unfold WX.cutZ; rw [List.length_drop]; omega
      have hzl2 : (WX.cutZ s).length < s.length := by
        have : 0 < s.length := List.length_pos_iff.2 hne
        unfold WX.cutZ; rw [List.length_drop]; omega
      obtain ⟨x, hx⟩ : ∃ x, WX.cutA s = x := ⟨_, rfl⟩
      obtain ⟨z, hz⟩ : ∃ z, WX.cutZ s = z := ⟨_, rfl⟩
      rw [hx, hz] at HC HG
      rw [hz] at hzl hzl2
      clear hx hz hne
      gi_wp2_with (fail)
      refine ⟨trivial, (fun h => by cases h), ?_⟩
      refine (callsIn_wide.2 HC.out).mono ?_
      rintro e w' ⟨b, k, rfl, rfl⟩
      obtain ⟨fn, tmps, assign, body, hy, hR⟩ := HY.out pre x (WX.linesG z) (wr.drewN k) (by rw [HB.out.1, HG.out]) (HD.out.1 _ _ _ HB.out.2.2)
      gi_wp2
      refine ⟨(fun h => by cases h), ?_⟩
      refine hR.mono ?_
      rintro e W3 (⟨rfl, hJ3, hk3⟩ | ⟨rfl, hJx3⟩)
      · have hb3 : boxAt bx W3 s := hk3.trans HB.out.2.1
        have HB3 := Lib.hid (And.intro hb3 hJ3)
        have c3 : W3.cell? ⟨bx, 0, none⟩ = some (S s) := cell_at hb3 0
        have f3 : W3.frozen? ⟨bx, 0, none⟩ = false := free_at hb3 0
        clear hJ3 hk3 hb3
        gi_wp2
        go_roundw
        case rel => exact ⟨pre ++ [x], z, by rw [HB.out.1, HG.out]; simp, hzl, heap_setCell_at HB3.out.1 0 _, HD.out.2.1 _ _ _ HB3.out.2⟩
        case measure =>
          have e1 : (W3.setCell ⟨bx, 0, none⟩ (S z)).cell? ⟨bx, 0, none⟩ = some (S z) := cell_at (heap_setCell_at HB3.out.1 0 _) 0
          rw [e1, c0]
          show z.toArray.size < s.toArray.size
          simpa using hzl2
      · gi_wp2
        refine bodyPost_ret (results_none rfl _ _ _) rfl ?_
        exact ⟨⟨_, rfl⟩, .inr ⟨_, hJx3⟩⟩
def LinePost (B bx : Nat) (I Ix : List (List UInt8) → World → Prop) (xs : List (List UInt8)) (W : World) : Exit → Act → World → Prop
  | .normal, _, W' => RoundKeeps B bx W W' ∧ I xs W'
  | .ret, _, W' => RoundKeeps B bx W W' ∧ Ix xs W'
  | _, _, _ => False
/-- A loop over a text's lines, out of the walk of one round. -/
theorem lines_loop (n : Nat) {g : Operand} {p : Tmp} {assign body : Code} {Q : Exit → Act → World → Prop} {a : Act} {w : World} (bx : Nat) (s : List UInt8) (hs : s.length ≤ 3000)
    (hg : a.eval g = .func (.func 97) #[] #[.pointer (some ⟨bx, 0, none⟩)]) (hb : boxAt bx w s) (I Ix : List (List UInt8) → World → Prop)
    (hI : ∀ pre W W', I pre W → Turn w.heap.size bx W W' → I pre W') (hIx : ∀ pre W W', Ix pre W → Turn w.heap.size bx W W' → Ix pre W') (hIm : ∀ pre W, I pre W → ML W) (h0 : I [] w) (a₁ : List UInt8 → Act)
    (hassign : ∀ (l : Nat) (x : List UInt8) (W : World) (K : Act → World → Prop), K (a₁ x) W →
      assign.wpIn (Fence.wide.inRound l) (n - 1 - 1) Tryd.prog (Exit.then K (fun _ _ _ => False)) { tmps := ((#[p] : Array Tmp).zip #[S x]).foldl (fun t (q, v) => t.setIfInBounds q v) a.tmps, defers := [] } W)
    (hbody : ∀ (l : Nat) (pre : List (List UInt8)) (x : List UInt8) (rest : List (List UInt8)) (W : World), WX.linesG s = pre ++ x :: rest → I pre W →
      body.wpIn (Fence.wide.inRound l) (n - 1 - 1) Tryd.prog (LinePost w.heap.size bx I Ix (pre ++ [x]) W) (a₁ x) W)
    (hdone : ∀ (D : Nat) (W : World), w.heap.size ≤ D → I (WX.linesG s) W → W.heap[D]? = some (.deferred (some [])) → Q .normal { a with defers := { target := .collected D, args := #[] } :: a.defers } W)
    (hstop : ∀ (D : Nat) (pre : List (List UInt8)) (W : World), w.heap.size ≤ D → Ix pre W → W.heap[D]? = some (.deferred (some [])) → Code.ret.wpIn Fence.wide n Tryd.prog Q { a with defers := { target := .collected D, args := #[] } :: a.defers } W) :
    (Code.rangeFunc g #[p] assign body).wpIn Fence.wide n Tryd.prog Q a w := by
  have hbw := lt_of_block hb
  refine wpIn_rangeFunc fun fn hfn => ?_
  obtain ⟨mk, hmk⟩ : ∃ mk : LoopState → Option Code → Loop, mk = fun st pe => { state := st, pending := pe, fn, tmps := a.tmps, params := #[p], assign, body, defers := w.heap.size } := ⟨_, rfl⟩
  obtain ⟨W1, hW1⟩ : ∃ W1, (w.alloc (.deferred (some []))).alloc (.loop (mk .ready none)) = W1 := ⟨_, rfl⟩
  have a1 : W1.heap[w.heap.size]? = some (.deferred (some [])) := by rw [← hW1]; exact (Below.heap_alloc _ _ _ (by simp)).trans (heap_new w _)
  have a2 : W1.heap[w.heap.size + 1]? = some (.loop (mk .ready none)) := by
    rw [← hW1]; have := heap_new (w.alloc (.deferred (some []))) (.loop (mk .ready none)); rwa [World.size_alloc] at this
  have t1 : Turn w.heap.size bx w W1 := by
    rw [← hW1]
    have x1 := Turn.alloc w.heap.size bx w (.deferred (some []))
    have x2 := Turn.alloc w.heap.size bx (w.alloc (.deferred (some []))) (.loop (mk .ready none))
    exact ⟨rfl, rfl, rfl, Nat.le_trans x1.size x2.size, fun k o h h1 h2 => x2.block k o (x1.block k o h h1 h2) h1 h2⟩
  have b1 : boxAt bx W1 s := by rw [← hW1]; exact ((Below.heap_alloc _ _ _ (by simp; omega)).trans (Below.heap_alloc _ _ _ hbw)).trans hb
  refine ⟨w.heap.size + 1, [{ target := .collected w.heap.size, args := #[] }], W1, { target := .fn (.func 97) #[.pointer (some ⟨bx, 0, none⟩)], args := #[.func (.yield (w.heap.size + 1)) #[] #[]] }, W1, 97,
    #[.func (.yield (w.heap.size + 1)) #[] #[], .pointer (some ⟨bx, 0, none⟩)], W1, ?_, ?_, ?_, ?_, fun h => (by cases h), ?_⟩
  · rw [← hW1, hmk]; exact run_enterLoop_outer _ _ _ _ _
  · simp only [resolve, hg]
    simp [go_sem]
  · intro f' _; trivial
  · simp [invoke, go_sem, enters_of Tryd.func97 (by kernel_rfl) rfl]
  · have hne : bx ≠ w.heap.size := by omega
    have hne1 : bx ≠ w.heap.size + 1 := by omega
    refine (lines1_in (n - 1) (w.heap.size + 1) bx s hs
      (fun pre W => I pre W ∧ W.heap[w.heap.size + 1]? = some (.loop (mk .ready none)) ∧ W.heap[w.heap.size]? = some (.deferred (some [])))
      (fun pre W => Ix pre W ∧ W.heap[w.heap.size + 1]? = some (.loop (mk .done (some .ret))) ∧ W.heap[w.heap.size]? = some (.deferred (some [])))
      (fun pre W k h => ⟨hI _ _ _ h.1 (Turn.drewN _ _ _ _), h.2.1, h.2.2⟩)
      (fun pre W v h => ⟨hI _ _ _ h.1 (Turn.box _ _ _ _ _), (Below.heap_setCell W _ _ _ (by exact fun e => hne1 e.symm)).trans h.2.1, (Below.heap_setCell W _ _ _ (by exact fun e => hne e.symm)).trans h.2.2⟩)
      (fun pre W h => hIm _ _ h.1) ?_ W1 b1 ⟨hI _ _ _ h0 t1, a2, a1⟩).mono ?_
    · rintro pre x rest W hl ⟨hi, hr, hd⟩
      have hlt : w.heap.size + 1 < W.heap.size := lt_of_block hr
      have hy := run_yield (P := Tryd.prog) (args := #[S x]) hr (by rw [hmk]; rfl)
      rw [hmk] at hy
      have r2 : (W.putObj (w.heap.size + 1) (.loop { mk .ready none with state := .busy })).heap[w.heap.size + 1]? = some (.loop { mk .ready none with state := .busy }) := World.putObj_heap_same hlt
      have d2 : (W.putObj (w.heap.size + 1) (.loop { mk .ready none with state := .busy })).heap[w.heap.size]? = some (.deferred (some [])) := (World.putObj_heap_other (by omega)).trans hd
      have x2 : (W.putObj (w.heap.size + 1) (.loop { mk .ready none with state := .busy })).heap[bx]? = W.heap[bx]? := World.putObj_heap_other hne1
      have fin : ∀ (jump : Option Code) (W3 : World), RoundKeeps w.heap.size bx (W.putObj (w.heap.size + 1) (.loop { mk .ready none with state := .busy })) W3 →
          (Instr.endRound (w.heap.size + 1) jump).run Tryd.prog W3 = .ok (.bool jump.isNone) (W3.putObj (w.heap.size + 1) (.loop (mk (if jump.isNone then .ready else .done) jump))) ∧
          Turn w.heap.size bx W3 (W3.putObj (w.heap.size + 1) (.loop (mk (if jump.isNone then .ready else .done) jump))) ∧
          (W3.putObj (w.heap.size + 1) (.loop (mk (if jump.isNone then .ready else .done) jump))).heap[w.heap.size + 1]? = some (.loop (mk (if jump.isNone then .ready else .done) jump)) ∧
          (W3.putObj (w.heap.size + 1) (.loop (mk (if jump.isNone then .ready else .done) jump))).heap[w.heap.size]? = some (.deferred (some [])) ∧
          (W3.putObj (w.heap.size + 1) (.loop (mk (if jump.isNone then .ready else .done) jump))).heap[bx]? = W.heap[bx]? := fun jump W3 hk => by
        have r3 := hk.same _ _ (by omega) r2 rfl
        have e1 := run_endRound (P := Tryd.prog) jump r3
        rw [hmk] at e1 ⊢
        rw [hmk] at r3
        exact ⟨e1, Turn.put _ _ _ _ r3 (by omega) rfl, World.putObj_heap_same (lt_of_block r3), (World.putObj_heap_other (by omega)).trans (hk.same _ _ (Nat.le_refl _) d2 rfl), ((World.putObj_heap_other hne1).trans hk.box).trans x2⟩
      refine ⟨fn, _, assign, body, hy, roundIn_of_wpIn hfn (hassign _ x W _ ⟨_, run_beginRound hr (by rw [hmk]), ?_⟩)⟩
      refine wpIn_mono (hbody _ pre x rest _ hl (hI _ _ _ hi (Turn.put _ _ _ _ hr (by omega) rfl))) ?_
      rintro e a3 W3 hp
      cases e with
      | normal =>
        obtain ⟨hk, hi3⟩ := hp
        obtain ⟨e1, t3, r4, d4, x4⟩ := fin none W3 hk
        exact ⟨_, _, e1, .inl ⟨rfl, ⟨hI _ _ _ hi3 t3, r4, d4⟩, x4⟩⟩
      | ret =>
        obtain ⟨hk, hi3⟩ := hp
        obtain ⟨e1, t3, r4, d4, x4⟩ := fin (some .ret) W3 hk
        exact ⟨_, _, e1, .inr ⟨rfl, hIx _ _ _ hi3 t3, r4, d4⟩⟩
      | exit id => exact hp.elim
      | goto t => exact hp.elim
      | panic ch => exact hp.elim
      | outgrown => exact hp.elim
    · rintro e W2 ⟨⟨v, rfl⟩, ⟨hi, hr, hd⟩ | ⟨pre, hi, hr, hd⟩⟩
      · have e1 := run_endLoop (P := Tryd.prog) hr (by rw [hmk]; simp)
        rw [hmk] at e1 hr
        exact ⟨none, _, e1, hdone _ _ (Nat.le_refl _) (hI _ _ _ hi (Turn.put _ _ _ _ hr (by omega) rfl)) ((World.putObj_heap_other (by omega)).trans hd)⟩
      · have e1 := run_endLoop (P := Tryd.prog) hr (by rw [hmk]; simp)
        rw [hmk] at e1 hr
        exact ⟨some .ret, _, e1, hstop _ _ _ (Nat.le_refl _) (hIx _ _ _ hi (Turn.put _ _ _ _ hr (by omega) rfl)) ((World.putObj_heap_other (by omega)).trans hd)⟩
end Go.Proofs.YtgdioalhlmnhhaaDoor
