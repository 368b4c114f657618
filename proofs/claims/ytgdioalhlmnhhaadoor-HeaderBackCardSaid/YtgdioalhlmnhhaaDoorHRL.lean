/- Walks and lemmas on the program of this seat, used by its statements; each theorem bears its own conditions. -/
import Derived.Test.YtgdioalhlmnhhaaDoorHRK
import Derived.Handy
import Derived.RangeFuncNested
import Derived.RangeFuncBound
import Derived.RangeFuncCalls
import Derived.RangeFuncLeaves
import Derived.Shelf.Abstract
import Derived.Shelf.RegionOpen
import Derived.OwnWalkIn
import Derived.TacticsInMore
import Derived.LoopNIn
import Derived.LoopIn
import Derived.OwnWalk
import Derived.Maps.Own
import Derived.Maps.OwnSet
import Derived.Maps.OwnIn
import Derived.Maps.Views
namespace Go.Proofs.YtgdioalhlmnhhaaDoor
open Go.RowKit
set_option linter.unusedVariables false
set_option linter.unusedSimpArgs false
attribute [local go_sem] Oper.semAt_some
theorem kindL_len (x : List UInt8) : (WX.kindL x).length ≤ 7 := by
  rcases kindL_cases x with ⟨h, _⟩ | ⟨h, _⟩ | ⟨h, _⟩ | h <;> rw [h] <;> decide
/-- between two rounds of header.why -/
structure WInv (w : World) (pre : List (List UInt8)) (W : World) : Prop where
  cm : CntMap (w.heap.size + 1) (2 * pre.length) W (cnt pre)
  res : W.heap[w.heap.size]? = some (.cells #[I 0] 22 (0, 0))
  mv : W.heap[w.heap.size + 1 + 1]? = some (.cells #[.map (some (w.heap.size + 1))] 121 (0, 0))
  tw : W.heap[w.heap.size + 1 + 1 + 1]? = some (.cells #[.bool (WX.twiceB pre)] 4 (0, 0))
  all : ∀ y ∈ pre, WX.kindL y ≠ []
  kept : Kept [] w W
  big : w.heap.size + 1 + 1 + 1 + 1 < W.heap.size
theorem WInv.turn {w W W' : World} {pre : List (List UInt8)} {B : Nat} (h : WInv w pre W) (t : Turn B (w.heap.size + 1 + 1 + 1 + 1) W W') (hB : w.heap.size + 1 + 1 + 1 + 1 ≤ B) : WInv w pre W' :=
  ⟨h.cm.kept fun o ho => t.block _ o ho (by omega) (.inl (by omega)), t.block _ _ h.res (by omega) (.inr rfl), t.block _ _ h.mv (by omega) (.inr rfl), t.block _ _ h.tw (by omega) (.inr rfl), h.all, h.kept.turn t (by omega) (by omega), Nat.lt_of_lt_of_le h.big t.size⟩
theorem WInv.keptIn {w W W' : World} {pre : List (List UInt8)} (h : WInv w pre W) (k : Kept [] W W') : WInv w pre W' := by
  have hb := h.big
  exact ⟨h.cm.kept fun o ho => (k.block _ (lt_of_block ho) (by simp)).trans ho, k.at h.res (by simp), k.at h.mv (by simp), k.at h.tw (by simp), h.all, h.kept.trans' k, Nat.lt_of_lt_of_le h.big k.size⟩
theorem why_res (W : World) (tmps : Array Value) (b : Nat) (v : Value) (hb : W.heap[b]? = some (.cells #[v] 22 (0, 0))) (t2 : tmps.getD 2 undef = Ptr b) :
    (results Tryd.f67 tmps).run Tryd.prog W = .ok v W := by
  have c0 : W.cell? ⟨b, 0, none⟩ = some v := cell_at hb 0
  rw [Array.getD_eq_getD_getElem?] at t2
  simp [results, Tryd.results67, go_sem, t2, c0]
theorem Kept.putDef {w W : World} (k : Kept [] w W) {D : Nat} (hD : w.heap.size ≤ D) (o : Obj) : Kept [] w (W.putObj D o) :=
  ⟨k.os, k.tape, k.output, by simpa using k.size, fun j hj hn => (World.putObj_heap_other (by omega)).trans (k.block j hj hn)⟩
theorem why_end0 {w W : World} {tmps : Array Value} {r : Int} (hb : W.heap[w.heap.size]? = some (.cells #[I r] 22 (0, 0))) (k : Kept [] w W) (t2 : tmps.getD 2 undef = Ptr w.heap.size) :
    bodyPostM Fence.wide 9 Tryd.prog Tryd.f67 (fun e w' => e = .returned (I r) ∧ Kept [] w w') .ret { tmps := tmps, defers := [] } W :=
  ⟨_, why_res W tmps _ _ hb t2, rfl, k⟩
theorem why_end1 {w W : World} {tmps : Array Value} {r : Int} {D : Nat} (hb : W.heap[w.heap.size]? = some (.cells #[I r] 22 (0, 0))) (k : Kept [] w W) (t2 : tmps.getD 2 undef = Ptr w.heap.size)
    (hD : w.heap.size < D) (hK : W.heap[D]? = some (.deferred (some []))) :
    bodyPostM Fence.wide 9 Tryd.prog Tryd.f67 (fun e w' => e = .returned (I r) ∧ Kept [] w w') .ret { tmps := tmps, defers := [{ target := .collected D, args := #[] }] } W := by
  refine ⟨by simp, .inl ⟨_, _, rfl, run_takeDeferred hK, ?_⟩⟩
  exact ⟨_, why_res _ tmps _ _ ((World.putObj_heap_other (by omega)).trans hb) t2, rfl, k.putDef (by omega) _⟩
/-- within a round of header.why -/
structure WB (w W0 : World) (n : Nat) (f : List UInt8 → Nat) (t : Bool) (W : World) : Prop where
  cm : CntMap (w.heap.size + 1) n W f
  res : W.heap[w.heap.size]? = some (.cells #[I 0] 22 (0, 0))
  mv : W.heap[w.heap.size + 1 + 1]? = some (.cells #[.map (some (w.heap.size + 1))] 121 (0, 0))
  tw : W.heap[w.heap.size + 1 + 1 + 1]? = some (.cells #[.bool t] 4 (0, 0))
  kept : Kept [] w W
  rk : Kept [w.heap.size + 1, w.heap.size + 1 + 1 + 1] W0 W
theorem WInv.wb {w W W' : World} {pre : List (List UInt8)} (h : WInv w pre W) (k : Kept [] W W') : WB w W (2 * pre.length) (cnt pre) (WX.twiceB pre) W' :=
  let h2 := h.keptIn k
  ⟨h2.cm, h2.res, h2.mv, h2.tw, h2.kept, k.mono (by simp)⟩
theorem WB.put {w W0 W W' : World} {n n' : Nat} {f f' : List UInt8 → Nat} {t : Bool} (h : WB w W0 n f t W) (hc : CntMap (w.heap.size + 1) n' W' f') (g : W.grownBy W' (some (w.heap.size + 1))) : WB w W0 n' f' t W' :=
  ⟨hc, (g.block _ (lt_of_block h.res) (by simp; try omega)).trans h.res, (g.block _ (lt_of_block h.mv) (by simp; try omega)).trans h.mv, (g.block _ (lt_of_block h.tw) (by simp; try omega)).trans h.tw,
    h.kept.grown g (fun k hk => by cases hk; omega), h.rk.trans' ⟨g.os, g.tape, g.output, g.size, fun k hk hn => g.block k hk (by simp at hn ⊢; exact hn.1)⟩⟩
theorem WB.done {w W0 W : World} {n : Nat} {f : List UInt8 → Nat} {t : Bool} {B : Nat} {pre : List (List UInt8)} {x : List UInt8} (h : WB w W0 n f t W) (hi : WInv w pre W0) (hB : w.heap.size + 1 + 1 + 1 + 1 + 1 ≤ B) (hx : WX.kindL x ≠ []) (hn : n = 2 * pre.length + 1 + 1) (hf : f = cnt (pre ++ [x])) (t' : Bool) (ht : WX.twiceB (pre ++ [x]) = t') :
    RoundKeeps B (w.heap.size + 1 + 1 + 1 + 1) W0 (W.setCell ⟨w.heap.size + 1 + 1 + 1, 0, none⟩ (.bool t')) ∧ WInv w (pre ++ [x]) (W.setCell ⟨w.heap.size + 1 + 1 + 1, 0, none⟩ (.bool t')) := by
  have k1 := Kept.set1 W ⟨w.heap.size + 1 + 1 + 1, 0, none⟩ (.bool t')
  have kk : Kept [w.heap.size + 1, w.heap.size + 1 + 1 + 1] W0 (W.setCell ⟨w.heap.size + 1 + 1 + 1, 0, none⟩ (.bool t')) := h.rk.trans' (k1.mono (by simp))
  have hb := hi.big
  refine ⟨⟨kk.size, kk.block _ hb (by simp; try omega), fun k o hk ho _ => (kk.block k (lt_of_block ho) (by simp; omega)).trans ho⟩, ?_⟩
  subst hn hf ht
  refine ⟨?_, k1.at h.res (by simp; try omega), k1.at h.mv (by simp; try omega), heap_setCell_at h.tw 0 _, ?_, h.kept.setCell (.inr (by simp; omega)) _, Nat.lt_of_lt_of_le hb kk.size⟩
  · have := h.cm.kept (W' := W.setCell ⟨w.heap.size + 1 + 1 + 1, 0, none⟩ (.bool (WX.twiceB (pre ++ [x])))) fun o ho => k1.at ho (by simp; try omega)
    rwa [show 2 * (pre ++ [x]).length = 2 * pre.length + 1 + 1 by simp; omega]
  · intro y hy
    rcases List.mem_append.1 hy with hy | hy
    · exact hi.all y hy
    · simp at hy; subst hy; exact hx
theorem WB.cnt2 {w W0 W : World} {n : Nat} {pre : List (List UInt8)} {x : List UInt8} {t : Bool} (h : WB w W0 n (fun z => cnt pre z + (if WX.kindL x = z then 1 else 0) + (if x = z then 1 else 0)) t W) : WB w W0 n (cnt (pre ++ [x])) t W := by
  have e : (fun z => cnt pre z + (if WX.kindL x = z then 1 else 0) + (if x = z then 1 else 0)) = cnt (pre ++ [x]) := by
    funext z; rw [cnt_snoc]; omega
  rwa [e] at h
theorem WB.cnt2' {w W0 W : World} {n : Nat} {pre : List (List UInt8)} {x kx : List UInt8} {t : Bool} (h : WB w W0 n (fun z => (fun z => cnt pre z + (if kx = z then 1 else 0)) z + (if x = z then 1 else 0)) t W) (hk : WX.kindL x = kx) : WB w W0 n (cnt (pre ++ [x])) t W := by
  subst hk; exact h.cnt2
theorem CntMap.lookB {b n : Nat} {W : World} {f : List UInt8 → Nat} (h : CntMap b n W f) (y : List UInt8) (hy : y.length ≤ 3000) (hn : f y ≤ 9000) : ∃ c : Nat, (Instr.lookup 121 (.map (some b)) (S y) false).run Tryd.prog W = .ok (I c) W ∧ (c : Int) ≤ 9000 ∧ Hid (c = f y ∧ c < 10000) :=
  ⟨f y, h.look y hy, by omega, Lib.hid ⟨rfl, by omega⟩⟩
theorem WInv.roundRes {w W W' : World} {pre : List (List UInt8)} {n : Nat} {f : List UInt8 → Nat} {t : Bool} {B : Nat} (hi : WInv w pre W) (h : WB w W n f t W') (hB : w.heap.size + 1 + 1 + 1 + 1 + 1 ≤ B := by exact Nat.le_refl _) (v : Value := I 210) : RoundKeeps B (w.heap.size + 1 + 1 + 1 + 1) W (W'.setCell ⟨w.heap.size, 0, none⟩ v) := by
  have k1 := Kept.set1 W' ⟨w.heap.size, 0, none⟩ v
  have kk : Kept [w.heap.size + 1, w.heap.size + 1 + 1 + 1, w.heap.size] W (W'.setCell ⟨w.heap.size, 0, none⟩ v) := (h.rk.mono (by simp)).trans' (k1.mono (by simp))
  exact ⟨kk.size, kk.block _ hi.big (by simp; try omega), fun k o hk ho _ => (kk.block k (lt_of_block ho) (by simp; omega)).trans ho⟩
set_option maxRecDepth 100000 in
set_option maxHeartbeats 4000000 in
theorem hwhy_any (s : List UInt8) (w : World) (hs : s.length ≤ 3000) (hT : TH w) (r : Int) (hr : WX.whyF s = r) :
    Calls Tryd.prog 67 #[S s] w fun e w' => e = .returned (I r) ∧ Kept [] w w' := by
  have HR := Lib.hid hr
  have HT := Lib.hid hT
  clear hr hT
  have hmm := @run_makeMap Tryd.prog
  refine (callsIn_wide (n := 9)).1 ?_
  refine callsIn_of_wp_marks Tryd.func67 rfl trivial ?_ rfl
  simp only [Tryd.ntmps67, List.size_toArray, List.length_cons, List.length_nil, Nat.reduceAdd, Nat.reduceSub, Array.replicate_succ, Array.replicate_zero, List.push_toArray, List.append_toArray, List.nil_append, List.cons_append]
  gi_wp2_with (fail)
  refine ⟨trivial, ?_⟩
  refine (callsIn_wide.2 (suffixNl_any s _ hs)).mono ?_
  rintro e w' ⟨rfl, rfl⟩
  by_cases he : WX.ends10 s = true
  · have HE := Lib.hid he
    rw [he]
    clear he
    gi_wp2_with (fail)
    refine ⟨trivial, ?_⟩
    refine (callsIn_wide.2 (linesNew_any s _)).mono ?_
    rintro e w' ⟨rfl, rfl⟩
    gi_wp2_with (fail)
    obtain ⟨A1, hA1⟩ : ∃ A, w.alloc (.cells #[I 0] 22) = A := ⟨_, rfl⟩
    have s1 : A1.heap.size = w.heap.size + 1 := by rw [← hA1]; simp
    have k1 : Kept [] w A1 := by rw [← hA1]; exact (Kept.refl _ _).alloc _
    have b1 : A1.heap[w.heap.size]? = some (.cells #[I 0] 22 (0, 0)) := by rw [← hA1]; exact heap_new w _
    obtain ⟨A2, hA2⟩ : ∃ A, A1.alloc (.map #[] 0) = A := ⟨_, rfl⟩
    have k2 : Kept [] A1 A2 := by rw [← hA2]; exact (Kept.refl _ _).alloc _
    have c2 : CntMap (w.heap.size + 1) 0 A2 (fun _ => 0) := by have := CntMap.made A1; rw [s1, hA2] at this; exact this
    have s2 : A2.heap.size = w.heap.size + 1 + 1 := by rw [← hA2]; simp [s1]
    obtain ⟨A3, hA3⟩ : ∃ A, A2.alloc (.cells #[.map (some (w.heap.size + 1))] 121) = A := ⟨_, rfl⟩
    have k3 : Kept [] A2 A3 := by rw [← hA3]; exact (Kept.refl _ _).alloc _
    have b3 : A3.heap[w.heap.size + 1 + 1]? = some (.cells #[.map (some (w.heap.size + 1))] 121 (0, 0)) := by have := heap_new A2 (.cells #[.map (some (w.heap.size + 1))] 121); rw [s2, hA3] at this; exact this
    have s3 : A3.heap.size = w.heap.size + 1 + 1 + 1 := by rw [← hA3]; simp [s2]
    obtain ⟨A4, hA4⟩ : ∃ A, A3.alloc (.cells #[.bool false] 4) = A := ⟨_, rfl⟩
    have k4 : Kept [] A3 A4 := by rw [← hA4]; exact (Kept.refl _ _).alloc _
    have b4 : A4.heap[w.heap.size + 1 + 1 + 1]? = some (.cells #[.bool false] 4 (0, 0)) := by have := heap_new A3 (.cells #[.bool false] 4); rw [s3, hA4] at this; exact this
    have s4 : A4.heap.size = w.heap.size + 1 + 1 + 1 + 1 := by rw [← hA4]; simp [s3]
    obtain ⟨A5, hA5⟩ : ∃ A, A4.alloc (.cells #[S s] 9) = A := ⟨_, rfl⟩
    have k5 : Kept [] A4 A5 := by rw [← hA5]; exact (Kept.refl _ _).alloc _
    have hbx : boxAt (w.heap.size + 1 + 1 + 1 + 1) A5 s := by have := heap_new A4 (.cells #[S s] 9); rw [s4, hA5] at this; exact this
    have s5 : A5.heap.size = w.heap.size + 1 + 1 + 1 + 1 + 1 := by rw [← hA5]; simp [s4]
    rw [hA1, hA2, hA3, hA4, hA5]
    have hinv : WInv w [] A5 := by
      have k35 := k4.trans' k5
      have k25 := k3.trans' k35
      refine ⟨c2.kept fun o ho => k25.at ho (by simp), (k2.trans' k25).at b1 (by simp), k35.at b3 (by simp), k5.at b4 (by simp), by simp, ((k1.trans' k2).trans' k25), by omega⟩
    clear hA1 hA2 hA3 hA4 hA5 s1 k1 b1 k2 c2 s2 k3 b3 s3 k4 b4 s4 k5
    refine lines_loop 9 (w.heap.size + 1 + 1 + 1 + 1) s hs rfl hbx (WInv w) (fun pre W => W.heap[w.heap.size]? = some (.cells #[I 210] 22 (0, 0)) ∧ Kept [] w W ∧ WX.whyF s = 210)
      (fun pre W W' h t => h.turn t (by omega)) (fun _ W W' h t => ⟨t.block _ _ h.1 (by omega) (.inr rfl), h.2.1.turn t (by omega) (by omega), h.2.2⟩) (fun pre W h => (HT.out.kept h.kept).tabs.ml) hinv
      (fun x => { tmps := #[S s, undef, Ptr w.heap.size, Ptr (w.heap.size + 1 + 1), Ptr (w.heap.size + 1 + 1 + 1), S x, undef, undef, undef, .map (some (w.heap.size + 1)), S s, .bool true, .bool false, S s, .func (.func 97) #[] #[.pointer (some ⟨w.heap.size + 1 + 1 + 1 + 1, 0, none⟩)], S x, undef, undef, undef, undef, undef, undef, undef, undef, undef, undef, undef, undef, undef, undef, undef, undef, undef, undef, undef, undef, undef, undef, undef, undef, undef, undef, undef, undef, undef, undef, undef, undef, undef, undef, undef, undef, undef, undef, undef, undef, undef], defers := [] }) ?assign ?body ?done ?stop
    case assign =>
      intro l x W K hK
      gi_wp2
      exact hK
    case body =>
      rw [s5]
      rintro l pre x rest W hl hiv
      have HI := Lib.hid hiv
      have HLN := Lib.hid hl
      have hxl : x.length ≤ s.length := WX.linesG_each s x (by rw [hl]; simp)
      have hxl' : (x.length : Int) ≤ 3000 := by omega
      have hpl : pre.length < 3001 := by
        have h1 := WX.linesG_len s
        rw [hl] at h1; simp at h1; omega
      clear hinv hiv hl hbx s5
      obtain ⟨kx, hkx⟩ : ∃ k, WX.kindL x = k := ⟨_, rfl⟩
      have HKX := Lib.hid hkx
      have hkl : kx.length ≤ 7 := by rw [← hkx]; exact kindL_len x
      have HK := Lib.hid (kind_any x W (by omega) kx hkx)
      clear hkx
      gi_wp2_with (fail)
      refine ⟨trivial, ?_⟩
      refine (CallsIn.inRound l (callsIn_wide.2 HK.out)).mono ?_
      rintro e w2 ⟨rfl, k2⟩
      have H2 := Lib.hid (HI.out.wb k2)
      clear k2
      have m0 : w2.cell? ⟨w.heap.size + 1 + 1, 0, none⟩ = some (.map (some (w.heap.size + 1))) := cell_at H2.out.mv 0
      have r0 : w2.frozen? ⟨w.heap.size, 0, none⟩ = false := free_at H2.out.res 0
      have r1 : w2.cell? ⟨w.heap.size, 0, none⟩ = some (I 0) := cell_at H2.out.res 0
      by_cases hk0 : kx = []
      · subst hk0
        have hall : (WX.linesG s).all (fun l => WX.kindL l != []) = false := by
          rw [HLN.out, List.all_append, List.all_cons, HKX.out]; simp
        have H3 := Lib.hid (And.intro (Kept.set1 w2 ⟨w.heap.size, 0, none⟩ (I 210)) (heap_setCell_at H2.out.res 0 (I 210)))
        have HW : Hid (WX.whyF s = 210) := Lib.hid (by unfold WX.whyF; rw [if_neg (by simp [HE.out]), if_pos hall])
        clear hall
        gi_wp2_with (fail)
        exact ⟨HI.out.roundRes H2.out, H3.out.2, H2.out.kept.setCell (.inr (Nat.le_refl _)) _, HW.out⟩
      · have HNE := Lib.hid hk0
        have hke : kx.isEmpty = false := by cases kx; exact absurd rfl hk0; rfl
        clear hk0
        obtain ⟨c1, L1, hc1, HC1⟩ := H2.out.cm.lookB kx (by omega) (by have := cnt_le pre kx; omega)
        obtain ⟨cx, hcx⟩ : ∃ c, cnt (pre ++ [x]) x = c := ⟨_, rfl⟩
        obtain ⟨ck, hck⟩ : ∃ c, cnt (pre ++ [x]) kx = c := ⟨_, rfl⟩
        have hcxb : (cx : Int) ≤ 9000 := by have := cnt_le (pre ++ [x]) x; rw [hcx] at this; simp at this; omega
        have hckb : (ck : Int) ≤ 9000 := by have := cnt_le (pre ++ [x]) kx; rw [hck] at this; simp at this; omega
        have HLK : Hid ((∀ w4, CntMap (w.heap.size + 1) (2 * pre.length + 1 + 1) w4 (cnt (pre ++ [x])) → (Instr.lookup 121 (.map (some (w.heap.size + 1))) (S x) false).run Tryd.prog w4 = .ok (I cx) w4) ∧
            (∀ w4, CntMap (w.heap.size + 1) (2 * pre.length + 1 + 1) w4 (cnt (pre ++ [x])) → (Instr.lookup 121 (.map (some (w.heap.size + 1))) (S kx) false).run Tryd.prog w4 = .ok (I ck) w4)) :=
          Lib.hid ⟨fun w4 h => hcx ▸ h.look x (by omega), fun w4 h => hck ▸ h.look kx (by omega)⟩
        have HTW : Hid (WX.twiceB (pre ++ [x]) = (WX.twiceB pre || (decide (1 < cx) || (kx != WX.devP && decide (1 < ck))))) := Lib.hid (by
          rw [twice_snoc pre x (by
            intro y hy
            rcases List.mem_append.1 hy with hy | hy
            · exact HI.out.all y hy
            · simp at hy; subst hy; rw [HKX.out]; exact HNE.out), hcx, HKX.out, hck])
        clear hcx hck
        obtain ⟨t, ht⟩ : ∃ t, WX.twiceB pre = t := ⟨_, rfl⟩
        rw [ht] at H2 HTW
        clear ht
        cases t with
        | true =>
          have HTT : Hid (WX.twiceB (pre ++ [x]) = true) := Lib.hid (by rw [HTW.out]; rfl)
          gi_wp2_with (first
            | (gi_at_mapUpdate; refine wpListIn_cnt _ rfl _ _ _ rfl (w.heap.size + 1) (2 * pre.length) _ rfl H2.out.cm (by omega) kx rfl (by omega) _ rfl (congrArg (fun n : Nat => (n : Int) + 1) HC1.out.1) (Nat.lt_of_le_of_lt (Nat.le_of_eq HC1.out.1.symm) HC1.out.2) ?_; intro w3 cc gg; have H3 := Lib.hid (H2.out.put cc gg); clear cc gg; have m3 : w3.cell? ⟨w.heap.size + 1 + 1, 0, none⟩ = some (.map (some (w.heap.size + 1))) := cell_at H3.out.mv 0; obtain ⟨c3, L3, hc3, HC3⟩ := H3.out.cm.lookB x (by omega) (by have := cnt_le pre x; split <;> omega))
            | (gi_at_mapUpdate; refine wpListIn_cnt _ rfl _ _ _ rfl (w.heap.size + 1) (2 * pre.length + 1) _ rfl H3.out.cm (by omega) x rfl (by omega) _ rfl (congrArg (fun n : Nat => (n : Int) + 1) HC3.out.1) (Nat.lt_of_le_of_lt (Nat.le_of_eq HC3.out.1.symm) HC3.out.2) ?_; intro w4 cc gg; have H4 := Lib.hid (H3.out.put cc gg); clear cc gg; have m4 : w4.cell? ⟨w.heap.size + 1 + 1, 0, none⟩ = some (.map (some (w.heap.size + 1))) := cell_at H4.out.mv 0; have H5 := Lib.hid (H4.out.cnt2' HKX.out); have t4 : w4.cell? ⟨w.heap.size + 1 + 1 + 1, 0, none⟩ = some (.bool true) := cell_at H5.out.tw 0; have f4 : w4.frozen? ⟨w.heap.size + 1 + 1 + 1, 0, none⟩ = false := free_at H5.out.tw 0; have L5 := HLK.out.1 w4 H5.out.cm; have L6 := HLK.out.2 w4 H5.out.cm)
            | fail)
          exact H5.out.done HI.out (Nat.le_refl _) (by rw [HKX.out]; exact HNE.out) rfl rfl _ HTT.out
        | false =>
          by_cases h1 : (cx : Int) > 1
          · have HTT : Hid (WX.twiceB (pre ++ [x]) = true) := Lib.hid (by rw [HTW.out, decide_eq_true (show 1 < cx by omega)]; rfl)
            gi_wp2_with (first
              | (gi_at_mapUpdate; refine wpListIn_cnt _ rfl _ _ _ rfl (w.heap.size + 1) (2 * pre.length) _ rfl H2.out.cm (by omega) kx rfl (by omega) _ rfl (congrArg (fun n : Nat => (n : Int) + 1) HC1.out.1) (Nat.lt_of_le_of_lt (Nat.le_of_eq HC1.out.1.symm) HC1.out.2) ?_; intro w3 cc gg; have H3 := Lib.hid (H2.out.put cc gg); clear cc gg; have m3 : w3.cell? ⟨w.heap.size + 1 + 1, 0, none⟩ = some (.map (some (w.heap.size + 1))) := cell_at H3.out.mv 0; obtain ⟨c3, L3, hc3, HC3⟩ := H3.out.cm.lookB x (by omega) (by have := cnt_le pre x; split <;> omega))
              | (gi_at_mapUpdate; refine wpListIn_cnt _ rfl _ _ _ rfl (w.heap.size + 1) (2 * pre.length + 1) _ rfl H3.out.cm (by omega) x rfl (by omega) _ rfl (congrArg (fun n : Nat => (n : Int) + 1) HC3.out.1) (Nat.lt_of_le_of_lt (Nat.le_of_eq HC3.out.1.symm) HC3.out.2) ?_; intro w4 cc gg; have H4 := Lib.hid (H3.out.put cc gg); clear cc gg; have m4 : w4.cell? ⟨w.heap.size + 1 + 1, 0, none⟩ = some (.map (some (w.heap.size + 1))) := cell_at H4.out.mv 0; have H5 := Lib.hid (H4.out.cnt2' HKX.out); have t4 : w4.cell? ⟨w.heap.size + 1 + 1 + 1, 0, none⟩ = some (.bool false) := cell_at H5.out.tw 0; have f4 : w4.frozen? ⟨w.heap.size + 1 + 1 + 1, 0, none⟩ = false := free_at H5.out.tw 0; have L5 := HLK.out.1 w4 H5.out.cm; have L6 := HLK.out.2 w4 H5.out.cm)
              | fail)
            exact H5.out.done HI.out (Nat.le_refl _) (by rw [HKX.out]; exact HNE.out) rfl rfl _ HTT.out
          · by_cases hd : kx = WX.devP
            · have HTT : Hid (WX.twiceB (pre ++ [x]) = false) := Lib.hid (by rw [HTW.out, decide_eq_false (show ¬ 1 < cx by omega), hd]; rfl)
              have hd2 : (kx == [100, 101, 118, 105, 99, 101, 32]) = true := by rw [beq_iff_eq]; exact hd
              clear hd
              gi_wp2_with (first
                | (gi_at_mapUpdate; refine wpListIn_cnt _ rfl _ _ _ rfl (w.heap.size + 1) (2 * pre.length) _ rfl H2.out.cm (by omega) kx rfl (by omega) _ rfl (congrArg (fun n : Nat => (n : Int) + 1) HC1.out.1) (Nat.lt_of_le_of_lt (Nat.le_of_eq HC1.out.1.symm) HC1.out.2) ?_; intro w3 cc gg; have H3 := Lib.hid (H2.out.put cc gg); clear cc gg; have m3 : w3.cell? ⟨w.heap.size + 1 + 1, 0, none⟩ = some (.map (some (w.heap.size + 1))) := cell_at H3.out.mv 0; obtain ⟨c3, L3, hc3, HC3⟩ := H3.out.cm.lookB x (by omega) (by have := cnt_le pre x; split <;> omega))
                | (gi_at_mapUpdate; refine wpListIn_cnt _ rfl _ _ _ rfl (w.heap.size + 1) (2 * pre.length + 1) _ rfl H3.out.cm (by omega) x rfl (by omega) _ rfl (congrArg (fun n : Nat => (n : Int) + 1) HC3.out.1) (Nat.lt_of_le_of_lt (Nat.le_of_eq HC3.out.1.symm) HC3.out.2) ?_; intro w4 cc gg; have H4 := Lib.hid (H3.out.put cc gg); clear cc gg; have m4 : w4.cell? ⟨w.heap.size + 1 + 1, 0, none⟩ = some (.map (some (w.heap.size + 1))) := cell_at H4.out.mv 0; have H5 := Lib.hid (H4.out.cnt2' HKX.out); have t4 : w4.cell? ⟨w.heap.size + 1 + 1 + 1, 0, none⟩ = some (.bool false) := cell_at H5.out.tw 0; have f4 : w4.frozen? ⟨w.heap.size + 1 + 1 + 1, 0, none⟩ = false := free_at H5.out.tw 0; have L5 := HLK.out.1 w4 H5.out.cm; have L6 := HLK.out.2 w4 H5.out.cm)
                | fail)
              exact H5.out.done HI.out (Nat.le_refl _) (by rw [HKX.out]; exact HNE.out) rfl rfl _ (by rw [HTT.out, decide_eq_false (by omega)])
            · have hd2 : (kx == [100, 101, 118, 105, 99, 101, 32]) = false := by rw [beq_eq_false_iff_ne]; exact hd
              by_cases h2 : (ck : Int) > 1
              · have HTT : Hid (WX.twiceB (pre ++ [x]) = true) := Lib.hid (by rw [HTW.out, decide_eq_false (show ¬ 1 < cx by omega), decide_eq_true (show 1 < ck by omega)]; simpa using hd)
                gi_wp2_with (first
                  | (gi_at_mapUpdate; refine wpListIn_cnt _ rfl _ _ _ rfl (w.heap.size + 1) (2 * pre.length) _ rfl H2.out.cm (by omega) kx rfl (by omega) _ rfl (congrArg (fun n : Nat => (n : Int) + 1) HC1.out.1) (Nat.lt_of_le_of_lt (Nat.le_of_eq HC1.out.1.symm) HC1.out.2) ?_; intro w3 cc gg; have H3 := Lib.hid (H2.out.put cc gg); clear cc gg; have m3 : w3.cell? ⟨w.heap.size + 1 + 1, 0, none⟩ = some (.map (some (w.heap.size + 1))) := cell_at H3.out.mv 0; obtain ⟨c3, L3, hc3, HC3⟩ := H3.out.cm.lookB x (by omega) (by have := cnt_le pre x; split <;> omega))
                  | (gi_at_mapUpdate; refine wpListIn_cnt _ rfl _ _ _ rfl (w.heap.size + 1) (2 * pre.length + 1) _ rfl H3.out.cm (by omega) x rfl (by omega) _ rfl (congrArg (fun n : Nat => (n : Int) + 1) HC3.out.1) (Nat.lt_of_le_of_lt (Nat.le_of_eq HC3.out.1.symm) HC3.out.2) ?_; intro w4 cc gg; have H4 := Lib.hid (H3.out.put cc gg); clear cc gg; have m4 : w4.cell? ⟨w.heap.size + 1 + 1, 0, none⟩ = some (.map (some (w.heap.size + 1))) := cell_at H4.out.mv 0; have H5 := Lib.hid (H4.out.cnt2' HKX.out); have t4 : w4.cell? ⟨w.heap.size + 1 + 1 + 1, 0, none⟩ = some (.bool false) := cell_at H5.out.tw 0; have f4 : w4.frozen? ⟨w.heap.size + 1 + 1 + 1, 0, none⟩ = false := free_at H5.out.tw 0; have L5 := HLK.out.1 w4 H5.out.cm; have L6 := HLK.out.2 w4 H5.out.cm)
                  | fail)
                exact H5.out.done HI.out (Nat.le_refl _) (by rw [HKX.out]; exact HNE.out) rfl rfl _ HTT.out
              · have HTT : Hid (WX.twiceB (pre ++ [x]) = false) := Lib.hid (by rw [HTW.out, decide_eq_false (show ¬ 1 < cx by omega), decide_eq_false (show ¬ 1 < ck by omega)]; simp)
                gi_wp2_with (first
                  | (gi_at_mapUpdate; refine wpListIn_cnt _ rfl _ _ _ rfl (w.heap.size + 1) (2 * pre.length) _ rfl H2.out.cm (by omega) kx rfl (by omega) _ rfl (congrArg (fun n : Nat => (n : Int) + 1) HC1.out.1) (Nat.lt_of_le_of_lt (Nat.le_of_eq HC1.out.1.symm) HC1.out.2) ?_; intro w3 cc gg; have H3 := Lib.hid (H2.out.put cc gg); clear cc gg; have m3 : w3.cell? ⟨w.heap.size + 1 + 1, 0, none⟩ = some (.map (some (w.heap.size + 1))) := cell_at H3.out.mv 0; obtain ⟨c3, L3, hc3, HC3⟩ := H3.out.cm.lookB x (by omega) (by have := cnt_le pre x; split <;> omega))
                  | (gi_at_mapUpdate; refine wpListIn_cnt _ rfl _ _ _ rfl (w.heap.size + 1) (2 * pre.length + 1) _ rfl H3.out.cm (by omega) x rfl (by omega) _ rfl (congrArg (fun n : Nat => (n : Int) + 1) HC3.out.1) (Nat.lt_of_le_of_lt (Nat.le_of_eq HC3.out.1.symm) HC3.out.2) ?_; intro w4 cc gg; have H4 := Lib.hid (H3.out.put cc gg); clear cc gg; have m4 : w4.cell? ⟨w.heap.size + 1 + 1, 0, none⟩ = some (.map (some (w.heap.size + 1))) := cell_at H4.out.mv 0; have H5 := Lib.hid (H4.out.cnt2' HKX.out); have t4 : w4.cell? ⟨w.heap.size + 1 + 1 + 1, 0, none⟩ = some (.bool false) := cell_at H5.out.tw 0; have f4 : w4.frozen? ⟨w.heap.size + 1 + 1 + 1, 0, none⟩ = false := free_at H5.out.tw 0; have L5 := HLK.out.1 w4 H5.out.cm; have L6 := HLK.out.2 w4 H5.out.cm)
                  | fail)
                exact H5.out.done HI.out (Nat.le_refl _) (by rw [HKX.out]; exact HNE.out) rfl rfl _ (by rw [HTT.out]; symm; rw [decide_eq_false (by omega), decide_eq_false (by omega)]; rfl)
    case done =>
      rw [s5]
      rintro D W hD hinv2 hK
      have HI := Lib.hid hinv2
      have HD := Lib.hid (And.intro hD hK)
      clear hinv hinv2 hD hK hbx s5
      obtain ⟨ls, hls⟩ : ∃ ls, WX.linesG s = ls := ⟨_, rfl⟩
      rw [hls] at HI
      have hll : ls.length ≤ 3000 := by rw [← hls]; exact Nat.le_trans (WX.linesG_len s) hs
      obtain ⟨W1, hW1⟩ : ∃ W1, W.alloc (.cells #[S WX.nameP, S WX.devP, S WX.sizeP] 9) = W1 := ⟨_, rfl⟩
      have k1 : Kept [] W W1 := by rw [← hW1]; exact (Kept.refl _ _).alloc _
      have b1 : W1.heap[W.heap.size]? = some (.cells #[S WX.nameP, S WX.devP, S WX.sizeP] 9 (0, 0)) := by rw [← hW1]; exact heap_new W _
      have H1 := Lib.hid (And.intro (HI.out.keptIn k1) (k1.at HD.out.2 (by simp)))
      have HB := Lib.hid b1
      have hD2 : w.heap.size < D := by have := HD.out.1; omega
      have t1 : W1.cell? ⟨w.heap.size + 1 + 1 + 1, 0, none⟩ = some (.bool (WX.twiceB ls)) := cell_at H1.out.1.tw 0
      have m1 : W1.cell? ⟨w.heap.size + 1 + 1, 0, none⟩ = some (.map (some (w.heap.size + 1))) := cell_at H1.out.1.mv 0
      have r0 : W1.frozen? ⟨w.heap.size, 0, none⟩ = false := free_at H1.out.1.res 0
      have r1 : W1.cell? ⟨w.heap.size, 0, none⟩ = some (I 0) := cell_at H1.out.1.res 0
      have HKW := Lib.hid hW1
      have HLS := Lib.hid hls
      have HEND : Hid (∀ n : Int, WX.whyF s = n → ∀ tmps : Array Value, tmps.getD 2 undef = Ptr w.heap.size → bodyPostM Fence.wide 9 Tryd.prog Tryd.f67 (fun e w' => e = .returned (I r) ∧ Kept [] w w') .ret { tmps := tmps, defers := [{ target := .collected D, args := #[] }] } (W1.setCell ⟨w.heap.size, 0, none⟩ (I n))) := Lib.hid (by
        rintro n hn tmps t2
        obtain rfl : r = n := by rw [← HR.out, hn]
        have ks := Kept.set1 W1 ⟨w.heap.size, 0, none⟩ (I r)
        exact why_end1 (heap_setCell_at H1.out.1.res 0 _) (H1.out.1.kept.setCell (.inr (Nat.le_refl _)) _) t2 hD2 (ks.at H1.out.2 (by simp; omega)))
      clear k1 b1 hW1 hls
      gi_wp2_with (fail)
      refine ⟨trivial, ?_⟩
      refine (callsIn_wide.2 (kinds_any W)).mono ?_
      rintro e w1 ⟨rfl, hw1⟩
      rw [HKW.out] at hw1
      subst hw1
      gi_wp2_with (fail)
      gi_loop [47] (fun iv => ∃ k : Nat, iv = I k ∧ k ≤ 3 ∧ ∀ j, j < k → WX.kindN (ksL.getD j []) ls ≠ 0) (fun iv => 3 - (intOf iv).toNat)
      case atStart => exact ⟨0, rfl, by omega, fun j hj => by omega⟩
      case round =>
        obtain ⟨k, rfl, hk, hno⟩ := hrel
        have HN := Lib.hid hno
        clear hno
        by_cases hlt : k < 3
        · have hlt' : (k : Int) < 3 := by omega
          have c1 := cell_at HB.out k
          rw [ks_cell k hlt] at c1
          have hkl := ks_len k
          have hk3 : ksL.getD k [] = WX.nameP ∨ ksL.getD k [] = WX.devP ∨ ksL.getD k [] = WX.sizeP := by
            have : k = 0 ∨ k = 1 ∨ k = 2 := by omega
            rcases this with rfl | rfl | rfl <;> simp [ksL]
          have hkc := cnt_kind ls HI.out.all (ksL.getD k []) hk3
          obtain ⟨x, hx⟩ : ∃ x, ksL.getD k [] = x := ⟨_, rfl⟩
          rw [hx] at c1 hkl hkc
          rw [hx] at hk3
          have HX := Lib.hid (And.intro hx (And.intro hkc hk3))
          obtain ⟨c, L1, hc, HC⟩ := H1.out.1.cm.lookB x (by omega) (by have := cnt_le ls x; omega)
          clear hx hkl hkc hk3
          by_cases h0 : c = 0
          · have hc0 : ((c : Int) == 0) = true := by rw [h0]; rfl
            have HY : Hid (WX.whyF s = 212) := Lib.hid (by
              have hal : ¬ (WX.linesG s).all (fun l => WX.kindL l != []) = false := by
                rw [HLS.out, Bool.not_eq_false, List.all_eq_true]; intro y hy; simpa using HI.out.all y hy
              have hz : WX.kindN x ls = 0 := by rw [← HX.out.2.1, ← HC.out.1, h0]
              unfold WX.whyF
              rw [if_neg (by simp [HE.out]), if_neg hal, HLS.out, if_pos (by rcases HX.out.2.2 with h | h | h <;> rw [h] at hz <;> simp [hz])])
            clear h0
            gi_wp2_with (fail)
            exact HEND.out _ HY.out _ rfl
          · have hc0 : ((c : Int) == 0) = false := by rw [beq_eq_false_iff_ne]; omega
            gi_wp2_with (fail)
            go_round
            case rel => exact ⟨k + 1, by go_num, by omega, fun j hj => by
              by_cases hjk : j = k
              · subst hjk; rw [HX.out.1, ← HX.out.2.1, ← HC.out.1]; exact h0
              · exact HN.out j (by omega)⟩
            case measure => simp [intOf]; omega
        · have hex : ¬ (k : Int) < 3 := by omega
          obtain rfl : k = 3 := by omega
          have hks : ¬ (WX.kindN WX.nameP ls = 0 ∨ WX.kindN WX.devP ls = 0 ∨ WX.kindN WX.sizeP ls = 0) := by
            have h0 := HN.out 0 (by omega)
            have h1 := HN.out 1 (by omega)
            have h2 := HN.out 2 (by omega)
            simp only [ksL] at h0 h1 h2
            rintro (h | h | h)
            · exact h0 h
            · exact h1 h
            · exact h2 h
          obtain ⟨t, ht⟩ : ∃ t, WX.twiceB ls = t := ⟨_, rfl⟩
          rw [ht] at t1
          have hal : ¬ (WX.linesG s).all (fun l => WX.kindL l != []) = false := by
            rw [HLS.out, Bool.not_eq_false, List.all_eq_true]; intro y hy; simpa using HI.out.all y hy
          cases t with
          | true =>
            have HY : Hid (WX.whyF s = 211) := Lib.hid (by unfold WX.whyF; rw [if_neg (by simp [HE.out]), if_neg hal, HLS.out, if_neg hks, if_pos ht])
            clear hks hal ht
            gi_wp2_with (fail)
            exact HEND.out _ HY.out _ rfl
          | false =>
            have HY : Hid (WX.whyF s = 210) := Lib.hid (by unfold WX.whyF; rw [if_neg (by simp [HE.out]), if_neg hal, HLS.out, if_neg hks, if_neg (by simp [ht])])
            clear hks hal ht
            gi_wp2_with (fail)
            exact HEND.out _ HY.out _ rfl
    case stop =>
      rw [s5]
      rintro D pre W hD ⟨h1, h2, h3⟩ hK
      obtain rfl : r = 210 := by rw [← HR.out, h3]
      have HX := Lib.hid (And.intro h1 (And.intro h2 (And.intro hK (show w.heap.size < D by omega))))
      clear h1 h2 h3 hK hD hinv hbx
      gi_wp2_with (fail)
      exact why_end1 HX.out.1 HX.out.2.1 rfl HX.out.2.2.2 HX.out.2.2.1
  · have he' : WX.ends10 s = false := by simpa using he
    have HRR : Hid (r = 210) := Lib.hid (by rw [← HR.out]; unfold WX.whyF; rw [if_pos he'])
    rw [he']
    clear he he'
    gi_wp2_with (fail)
    have HK : Kept [] w ((((w.alloc (.cells #[I 210] 22)).alloc (.map #[] 0)).alloc (.cells #[.map (some (w.heap.size + 1))] 121)).alloc (.cells #[.bool false] 4)) := ((((Kept.refl _ _).alloc _).alloc _).alloc _).alloc _
    have HB : ((((w.alloc (.cells #[I 210] 22)).alloc (.map #[] 0)).alloc (.cells #[.map (some (w.heap.size + 1))] 121)).alloc (.cells #[.bool false] 4)).heap[w.heap.size]? = some (.cells #[I 210] 22 (0, 0)) :=
      ((((Kept.refl [] _).alloc _).alloc _).alloc _).at (heap_new w _) (by simp)
    rw [HRR.out]
    exact why_end0 HB HK rfl
end Go.Proofs.YtgdioalhlmnhhaaDoor
