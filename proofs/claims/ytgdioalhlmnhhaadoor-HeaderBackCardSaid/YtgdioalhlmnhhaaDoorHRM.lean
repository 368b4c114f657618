/- Walks and lemmas on the program of this seat, used by its statements; each theorem bears its own conditions. -/
import Derived.Test.YtgdioalhlmnhhaaDoorHRL
import Derived.Test.YtgdioalhlmnhhaaDoorHRB
import Derived.Handy
import Derived.RangeFuncNested
import Derived.RangeFuncBound
import Derived.RangeFuncCalls
import Derived.RangeFuncLeaves
import Derived.Shelf.Abstract
import Derived.Shelf.RegionOpen
import Derived.OwnWalkIn
import Derived.TacticsInMore
import Derived.LoopNIn
import Derived.LoopIn
import Derived.OwnWalk
import Derived.Deep.AppendLies
namespace Go.Proofs.YtgdioalhlmnhhaaDoor
open Go.RowKit
set_option linter.unusedVariables false
set_option linter.unusedSimpArgs false
attribute [local go_sem] Oper.semAt_some
theorem foldP_len (B : Nat) : ∀ (ls : List (List UInt8)) (h : WX.Hr), (∀ l ∈ ls, l.length ≤ B) → (h.nm.length ≤ B ∧ (∀ d ∈ h.ds, d.length ≤ B) ∧ -9223372036854775808 ≤ h.sz ∧ h.sz ≤ 9223372036854775807) →
    ((ls.foldl WX.takeP h).nm.length ≤ B ∧ (∀ d ∈ (ls.foldl WX.takeP h).ds, d.length ≤ B) ∧ -9223372036854775808 ≤ (ls.foldl WX.takeP h).sz ∧ (ls.foldl WX.takeP h).sz ≤ 9223372036854775807)
  | [], h, _, hh => hh
  | l :: ls, h, hl, hh => by
    rw [List.foldl_cons]
    refine foldP_len B ls _ (fun x hx => hl x (by simp [hx])) ?_
    have h0 := hl l (by simp)
    unfold WX.takeP
    split
    · exact ⟨by simp; omega, hh.2⟩
    · split
      · split
        · refine ⟨hh.1, fun d hd => ?_, hh.2.2⟩
          rcases List.mem_append.1 hd with hd | hd
          · exact hh.2.1 d hd
          · rw [List.mem_singleton.1 hd]; simp; omega
        · exact hh
      · split
        · exact ⟨hh.1, hh.2.1, atoiV_bounds _⟩
        · exact hh
theorem hparse_res (W : World) (tmps : Array Value) (b : Nat) (x y z e : Value) (hb : W.heap[b]? = some (.cells #[x, y, z] HrT (0, 0))) (t2 : tmps.getD 2 undef = Ptr b) (t3 : tmps.getD 3 undef = e) :
    (results Tryd.f33 tmps).run Tryd.prog W = .ok (.tuple #[.agg #[x, y, z], e]) W := by
  obtain ⟨c0, c1, c2⟩ := cells3r hb
  rw [Array.getD_eq_getD_getElem?] at t2 t3
  simp [results, Tryd.results33, go_sem, t2, t3, c0, c1, c2]
theorem OwnT.low {B B' : Nat} {w : World} {v : Value} {l : List (List UInt8)} (h : OwnT B w v l) (hB : B' ≤ B) : OwnT B' w v l := by
  refine ⟨h.1, ?_⟩
  rcases h.2 with h0 | ⟨g, cap, cur, e, hb, r⟩
  · exact .inl h0
  · exact .inr ⟨g, cap, cur, e, by omega, r⟩
theorem OwnT.put {B D : Nat} {w : World} {v : Value} {l : List (List UInt8)} (h : OwnT B w v l) {o : Obj} (ho : w.heap[D]? = some o) (hc : o.isCells = false) (o' : Obj) : OwnT B (w.putObj D o') v l := by
  refine ⟨h.1, ?_⟩
  rcases h.2 with h0 | ⟨g, cap, cur, e, hb, hg, r⟩
  · exact .inl h0
  · exact .inr ⟨g, cap, cur, e, hb, (World.putObj_heap_other (by intro e; subst e; rw [hg] at ho; cases ho; cases hc)).trans hg, r⟩
theorem OwnT.set3 {B b : Nat} {w : World} {v : Value} {l : List (List UInt8)} (h : OwnT B w v l) (hb : b < B) (a c d : Value) : OwnT B (((w.setCell ⟨b, 0, none⟩ a).setCell ⟨b, 1, none⟩ c).setCell ⟨b, 2, none⟩ d) v l :=
  ((h.keptS (Kept.set1 w ⟨b, 0, none⟩ a) (by simp; exact hb)).keptS (Kept.set1 _ ⟨b, 1, none⟩ c) (by simp; exact hb)).keptS (Kept.set1 _ ⟨b, 2, none⟩ d) (by simp; exact hb)
theorem hparse_end {w wr : World} {tmps : Array Value} {r : WX.Hr × Int} {h : WX.Hr} {v : Value} {n : Int} {D : Nat} (x y z : Value) (hb : wr.heap[w.heap.size]? = some (.cells #[x, y, z] HrT (0, 0))) (ho : OwnT (w.heap.size + 1) wr v h.ds) (hk : Kept [] w wr) (hD : w.heap.size < D) (hK : wr.heap[D]? = some (.deferred (some []))) (hr : r = (h, n))
    (t2 : tmps.getD 2 undef = Ptr w.heap.size) (t3 : tmps.getD 3 undef = I n) : bodyPostM Fence.wide 9 Tryd.prog Tryd.f33 (HdrPost w r) .ret { tmps := tmps, defers := [{ target := .collected D, args := #[] }] } (((wr.setCell ⟨w.heap.size, 0, none⟩ (S h.nm)).setCell ⟨w.heap.size, 1, none⟩ v).setCell ⟨w.heap.size, 2, none⟩ (I h.sz)) := by
  have ks : Kept [w.heap.size] wr (((wr.setCell ⟨w.heap.size, 0, none⟩ (S h.nm)).setCell ⟨w.heap.size, 1, none⟩ v).setCell ⟨w.heap.size, 2, none⟩ (I h.sz)) := (((Kept.refl [w.heap.size] wr).setCell (p := ⟨w.heap.size, 0, none⟩) (.inl (by simp)) _).setCell (p := ⟨w.heap.size, 1, none⟩) (.inl (by simp)) _).setCell (p := ⟨w.heap.size, 2, none⟩) (.inl (by simp)) _
  have hK2 := ks.at hK (by simp; omega)
  refine ⟨by simp, .inl ⟨_, _, rfl, run_takeDeferred hK2, ?_⟩⟩
  subst hr
  exact ⟨_, hparse_res _ tmps w.heap.size _ _ _ _ ((World.putObj_heap_other (by omega)).trans (zero_stored hb _ _ _)) t2 t3, v, rfl, ((ho.set3 (by omega) _ _ _).put hK2 rfl _).low (by omega), (hk.set3 (Nat.le_refl _) _ _ _).putDef (by omega) _⟩
set_option maxRecDepth 100000 in
set_option maxHeartbeats 4000000 in
theorem hparse_any (s : List UInt8) (w : World) (hs : s.length ≤ 3000) (hT : TH w) (r : WX.Hr × Int) (hr : WX.parseF s = r) :
    Calls Tryd.prog 33 #[S s] w (HdrPost w r) := by
  have HR := Lib.hid hr
  have HT := Lib.hid hT
  clear hr hT
  refine (callsIn_wide (n := 9)).1 ?_
  refine callsIn_of_wp_marks Tryd.func33 rfl trivial ?_ rfl
  simp only [Tryd.ntmps33, List.size_toArray, List.length_cons, List.length_nil, Nat.reduceAdd, Nat.reduceSub, Array.replicate_succ, Array.replicate_zero, List.push_toArray, List.append_toArray, List.nil_append, List.cons_append]
  gi_wp2_with (fail)
  refine ⟨trivial, ?_⟩
  refine (callsIn_wide.2 (linesNew_any s _)).mono ?_
  rintro e w' ⟨rfl, rfl⟩
  gi_wp2_with (fail)
  have hbx : boxAt (w.heap.size + 1 + 1) (((w.alloc (.cells #[S [], nilV, I 0] HrT)).alloc (.cells #[S [], nilV, I 0] HrT)).alloc (.cells #[S s] 9)) s := by
    have := heap_new ((w.alloc (.cells #[S [], nilV, I 0] HrT)).alloc (.cells #[S [], nilV, I 0] HrT)) (.cells #[S s] 9)
    rwa [World.size_alloc, World.size_alloc] at this
  have hinv : PInv w [] (((w.alloc (.cells #[S [], nilV, I 0] HrT)).alloc (.cells #[S [], nilV, I 0] HrT)).alloc (.cells #[S s] 9)) := by
    refine ⟨⟨nilV, ⟨?_, OwnT.nil _ _, by omega⟩⟩, ?_, ((((Kept.refl _ _).alloc _).alloc _).alloc _), by simp [WX.zeroR], by simp⟩
    · refine (Below.heap_alloc _ _ _ (by simp)).trans ?_
      have := heap_new (w.alloc (.cells #[S [], nilV, I 0] HrT)) (.cells #[S [], nilV, I 0] HrT)
      rwa [World.size_alloc] at this
    · refine (Below.heap_alloc _ _ _ (by simp; omega)).trans ((Below.heap_alloc _ _ _ (by simp)).trans (heap_new w _))
  have hsz : (((w.alloc (.cells #[S [], nilV, I 0] HrT)).alloc (.cells #[S [], nilV, I 0] HrT)).alloc (.cells #[S s] 9)).heap.size = w.heap.size + 1 + 1 + 1 := by simp
  refine lines_loop 9 (w.heap.size + 1 + 1) s hs rfl hbx (PInv w) (fun _ _ => False)
    (fun pre W W' h t => h.turn t (by simp; omega)) (fun _ _ _ h _ => h) (fun pre W h => (HT.out.kept h.2.2.1).tabs.ml) hinv
    (fun x => { tmps := #[S s, undef, Ptr w.heap.size, I 0, Ptr (w.heap.size + 1), S x, undef, undef, undef, S s, .func (.func 97) #[] #[.pointer (some ⟨w.heap.size + 1 + 1, 0, none⟩)], S x, undef, undef, undef, undef, undef, undef, undef, undef, undef, undef, undef, undef, undef, undef, undef, undef, undef, undef, undef, undef, undef, undef, undef, undef, undef, undef, undef, undef, undef, undef, undef, undef, undef, undef, undef, undef, undef, undef, undef, undef, undef, undef, undef, undef, undef, undef, undef, undef, undef, undef, undef, undef], defers := [] }) ?assign ?body ?done ?stop
  case assign =>
    intro l x W K hK
    gi_wp2
    exact hK
  case body =>
    rintro l pre x rest W hl ⟨⟨v, hpr⟩, hz, hk, hds, hbig⟩
    have HI := Lib.hid (And.intro hpr (And.intro hz (And.intro hk hds)))
    have hxl : x.length ≤ s.length := WX.linesG_each s x (by rw [hl]; simp)
    have hxl' : (x.length : Int) ≤ 3000 := by omega
    have HF : Hid ((pre ++ [x]).foldl WX.takeP WX.zeroR = WX.takeP (pre.foldl WX.takeP WX.zeroR) x) := Lib.hid (by rw [List.foldl_append]; rfl)
    obtain ⟨h, hh⟩ : ∃ h, pre.foldl WX.takeP WX.zeroR = h := ⟨_, rfl⟩
    rw [hh] at HI HF hpr hds
    obtain ⟨p2, c2, rfl⟩ := hpr.own.form
    have hds' : (h.ds.length : Int) ≤ 9 := by omega
    clear hpr hz hk hh hl hbx hinv hsz
    obtain ⟨kx, hkx⟩ : ∃ k, WX.kindL x = k := ⟨_, rfl⟩
    have HKX := Lib.hid hkx
    have hways := kind_ways x
    rw [hkx] at hways
    have HK := Lib.hid (kind_any x W (by omega) kx hkx)
    clear hkx
    have HEND : ∀ (B : Nat) (W' : World) (h' : WX.Hr) (v' : Value), WX.takeP h x = h' → PR (w.heap.size + 1 + 1 + 1) (w.heap.size + 1) W' h' v' → Near (w.heap.size + 1 + 1 + 1) (w.heap.size + 1) W W' → h'.ds.length ≤ 9 →
        RoundKeeps B (w.heap.size + 1 + 1) W W' ∧ PInv w (pre ++ [x]) W' := fun B W' h' v' e1 hpr hk hd => by
      refine ⟨RoundKeeps.of hk hbig (by omega) (by omega) HI.out.1.blk, ⟨v', ?_⟩, hk.block _ _ HI.out.2.1 (by omega) (.inl (by omega)), Near.kept HI.out.2.2.1 hk (by omega) (by omega), ?_, Nat.lt_of_lt_of_le hbig hk.size⟩
      · rw [HF.out, e1]; exact hpr
      · rw [HF.out, e1]; exact hd
    have HE := Lib.hid HEND
    clear HEND
    gi_wp2_with (fail)
    refine ⟨trivial, ?_⟩
    refine (CallsIn.inRound l (callsIn_wide.2 HK.out)).mono ?_
    rintro e w2 ⟨rfl, k2⟩
    have H2 := Lib.hid (And.intro (HI.out.1.kept k2) (k2.mono (S' := [w.heap.size + 1]) (by simp)))
    obtain ⟨y0, y1, y2⟩ := H2.out.1.cells
    have yf := H2.out.1.free
    have hbig2 : w.heap.size + 1 + 1 < w2.heap.size := by have := k2.size; omega
    have HT2 := Lib.hid (HT.out.kept (HI.out.2.2.1.trans' k2))
    clear k2
    rcases hways with ⟨rfl, hp, hlen⟩ | ⟨rfl, hp, hlen⟩ | ⟨rfl, hp, hlen⟩ | ⟨rfl, hp⟩
    · have HP := Lib.hid (hp h)
      clear hp
      gi_wp2_with (fail)
      exact HE.out _ _ _ _ HP.out (H2.out.1.setName (x.drop 5)) (.of (H2.out.2.setCell (.inl (by simp)) _)) HI.out.2.2.2
    · by_cases h8 : (h.ds.length : Int) ≤ 8
      · have HP : Hid (WX.takeP h x = { h with ds := h.ds ++ [x.drop 7] }) := Lib.hid (by have := hp h; rw [if_pos (by omega)] at this; exact this)
        clear hp
        gi_wp2_with (fail)
        obtain ⟨i0, hi, hz0, hz1, hz2⟩ := info_parts str_info
        have HA2 : Hid (PR (w.heap.size + 1 + 1 + 1) (w.heap.size + 1) (w2.drew.alloc (.cells #[S (x.drop 7)] 9)) h (.slice p2 h.ds.length c2) ∧ Kept [w.heap.size + 1] W (w2.drew.alloc (.cells #[S (x.drop 7)] 9))) := Lib.hid ⟨H2.out.1.kept (((Kept.refl [] w2).drew).alloc _), H2.out.2.drew.alloc _⟩
        have hq1 : (w2.alloc (.cells #[S (x.drop 7)] 9)).cell? ⟨w.heap.size + 1, 1, none⟩ = some (.slice p2 h.ds.length c2) := cell_at (H2.out.1.kept ((Kept.refl [] w2).alloc _)).blk 1
        refine region_in (by kernel_rfl) (by kernel_rfl) (by rintro ⟨a, w, h⟩; exact h) ?_
        refine wpAny_take (i := 0) (v := ?_) rfl (by kernel_rfl) (by kernel_rfl) (by kernel_rfl) (fun _ _ _ h => h) (Or.inl ⟨by rfl, ?_⟩) ?_
        rotate_left
        · intro w
          go_simp
          try (with_reducible rfl)
        refine wpAny_take (i := 2) (v := ?_) rfl (by kernel_rfl) (by kernel_rfl) (by kernel_rfl) (fun _ _ _ h => h) (Or.inl ⟨by rfl, ?_⟩) ?_
        rotate_left
        · intro w
          go_simp
          try (with_reducible rfl)
        refine wpAny_take (i := 3) (v := ?_) rfl (by kernel_rfl) (by kernel_rfl) (by kernel_rfl) (fun _ _ _ h => h) (Or.inl ⟨by rfl, ?_⟩) ?_
        rotate_left
        · intro w
          go_simp
          try (with_reducible rfl)
        refine wpAny_take (i := 4) (v := ?_) rfl (by kernel_rfl) (by kernel_rfl) (by kernel_rfl) (fun _ _ _ h => h) (Or.inl ⟨by rfl, ?_⟩) ?_
        rotate_left
        · intro w
          go_simp
          try (with_reducible rfl)
        refine wpAny_take (i := 5) (v := ?_) rfl (by kernel_rfl) (by kernel_rfl) (by kernel_rfl) (fun _ _ _ h => h) (Or.inl ⟨by rfl, ?_⟩) ?_
        rotate_left
        · intro w
          go_simp
          try (with_reducible rfl)
        refine wpAny_ready (rs := [1, 6]) (by kernel_rfl) (by simp) ?_
        refine AllReady.cons (o := { dst := some 29, op := Op.load 47 (Operand.tmp 28), type := 47, pos := "header.go:105", after := #[{ on := 0, ground := Ground.data }], guard := none }) rfl (fun K hK => ?_) (AllReady.cons (o := { dst := some 34, op := Op.buildSlice 47 1 #[(0, Operand.tmp 33)], type := 47, pos := "header.go:105", after := #[{ on := 5, ground := Ground.data }], guard := none }) rfl (fun K hK => ?_) AllReady.nil)
        · go_simp
          refine hK _ _ ?_
          clear hK K
          refine wpAny_ready (rs := [6]) (by kernel_rfl) (by simp) ?_
          refine AllReady.cons (o := { dst := some 34, op := Op.buildSlice 47 1 #[(0, Operand.tmp 33)], type := 47, pos := "header.go:105", after := #[{ on := 5, ground := Ground.data }], guard := none }) rfl (fun K hK => ?_) AllReady.nil
          go_simp
          refine hK _ _ ?_
          clear hK K
          refine wpAny_ready (rs := [7]) (by kernel_rfl) (by simp) ?_
          refine AllReady.cons (o := { dst := some 35, op := Op.call { callee := Callee.builtin Builtin.append, args := #[Operand.tmp 29, Operand.tmp 34], argTypes := #[47, 47] }, type := 47, pos := "header.go:105", after := #[{ on := 1, ground := Ground.data }, { on := 6, ground := Ground.data }], guard := none }) rfl (fun K hK => ?_) AllReady.nil
          (refine step_append_lies _ (by rfl) (.tmp 29) (.tmp 34) 47 (by rfl) (w.heap.size + 1 + 1 + 1) 9 i0 (.string ⟨#[]⟩) 1 16 Tryd.underlying47 hi hz0 hz1 hz2 rfl (by decide) (.slice p2 h.ds.length c2) h.ds.length (h.ds.map S) (by simp [Act.eval, Act.put]) (by exact HA2.out.1.own) ⟨w2.heap.size, 0, none⟩ 1 1 [S (x.drop 7)] (by simp [Act.eval, Act.put]) rfl (by exact World.news_of_block (heap_new w2 _)) (S_one [x.drop 7]) (by decide) (by unfold maxLen; omega) (by omega) (by show _ ≤ (w2.heap.push _).size; simp; omega) _ rfl ?_)
          intro g cap wa own1 gr1 hat hlt9
          have HBL := Lib.hid (HA2.out.1.blkGrown gr1)
          have HB := Lib.hid (And.intro (HA2.out.1.app own1 gr1) ((Near.of (B := w.heap.size + 1 + 1 + 1) HA2.out.2).grown gr1 HA2.out.1.own.cells))
          have z1 := cell_at HBL.out 1
          have zf := fun i => free_at HBL.out i
          clear own1 gr1 hat hlt9
          refine hK _ _ ?_
          clear hK K
          refine wpAny_take (i := 8) (v := ?_) rfl (by kernel_rfl) (by kernel_rfl) (by kernel_rfl) (fun _ _ _ h => h) (Or.inl ⟨by rfl, ?_⟩) ?_
          rotate_left
          · intro w
            go_simp
            try (with_reducible rfl)
          refine wpAny_ready (rs := [9]) (by kernel_rfl) (by simp) ?_
          refine AllReady.cons rfl (fun K hK => ?_) AllReady.nil
          go_simp
          refine hK _ _ ?_
          clear hK K
          refine wpAny_done (by kernel_rfl) ?_ _
          exact HE.out _ _ _ _ HP.out HB.out.1 (HB.out.2.trans (Kept.set1 wa ⟨w.heap.size + 1, 1, none⟩ _)) (by simp; omega)
        · go_simp
          refine hK _ _ ?_
          clear hK K
          refine wpAny_ready (rs := [1]) (by kernel_rfl) (by simp) ?_
          refine AllReady.cons (o := { dst := some 29, op := Op.load 47 (Operand.tmp 28), type := 47, pos := "header.go:105", after := #[{ on := 0, ground := Ground.data }], guard := none }) rfl (fun K hK => ?_) AllReady.nil
          go_simp
          refine hK _ _ ?_
          clear hK K
          refine wpAny_ready (rs := [7]) (by kernel_rfl) (by simp) ?_
          refine AllReady.cons (o := { dst := some 35, op := Op.call { callee := Callee.builtin Builtin.append, args := #[Operand.tmp 29, Operand.tmp 34], argTypes := #[47, 47] }, type := 47, pos := "header.go:105", after := #[{ on := 1, ground := Ground.data }, { on := 6, ground := Ground.data }], guard := none }) rfl (fun K hK => ?_) AllReady.nil
          (refine step_append_lies _ (by rfl) (.tmp 29) (.tmp 34) 47 (by rfl) (w.heap.size + 1 + 1 + 1) 9 i0 (.string ⟨#[]⟩) 1 16 Tryd.underlying47 hi hz0 hz1 hz2 rfl (by decide) (.slice p2 h.ds.length c2) h.ds.length (h.ds.map S) (by simp [Act.eval, Act.put]) (by exact HA2.out.1.own) ⟨w2.heap.size, 0, none⟩ 1 1 [S (x.drop 7)] (by simp [Act.eval, Act.put]) rfl (by exact World.news_of_block (heap_new w2 _)) (S_one [x.drop 7]) (by decide) (by unfold maxLen; omega) (by omega) (by show _ ≤ (w2.heap.push _).size; simp; omega) _ rfl ?_)
          intro g cap wa own1 gr1 hat hlt9
          have HBL := Lib.hid (HA2.out.1.blkGrown gr1)
          have HB := Lib.hid (And.intro (HA2.out.1.app own1 gr1) ((Near.of (B := w.heap.size + 1 + 1 + 1) HA2.out.2).grown gr1 HA2.out.1.own.cells))
          have z1 := cell_at HBL.out 1
          have zf := fun i => free_at HBL.out i
          clear own1 gr1 hat hlt9
          refine hK _ _ ?_
          clear hK K
          refine wpAny_take (i := 8) (v := ?_) rfl (by kernel_rfl) (by kernel_rfl) (by kernel_rfl) (fun _ _ _ h => h) (Or.inl ⟨by rfl, ?_⟩) ?_
          rotate_left
          · intro w
            go_simp
            try (with_reducible rfl)
          refine wpAny_ready (rs := [9]) (by kernel_rfl) (by simp) ?_
          refine AllReady.cons rfl (fun K hK => ?_) AllReady.nil
          go_simp
          refine hK _ _ ?_
          clear hK K
          refine wpAny_done (by kernel_rfl) ?_ _
          exact HE.out _ _ _ _ HP.out HB.out.1 (HB.out.2.trans (Kept.set1 wa ⟨w.heap.size + 1, 1, none⟩ _)) (by simp; omega)
      · have h8d := decide_eq_false h8
        have HP : Hid (WX.takeP h x = h) := Lib.hid (by have := hp h; rw [if_neg (by omega)] at this; exact this)
        clear hp
        gi_wp2_with (fail)
        exact HE.out _ _ _ _ HP.out H2.out.1 (.of H2.out.2) HI.out.2.2.2
    · have HP := Lib.hid (hp h)
      have HAT := Lib.hid (atoi_any (x.drop 5) w2 (by simp; omega) HT2.out)
      clear hp
      gi_wp2_with (fail)
      refine ⟨trivial, ?_⟩
      refine (CallsIn.inRound l (callsIn_wide.2 HAT.out)).mono ?_
      rintro e w3 ⟨er, rfl, k3⟩
      have H3 := Lib.hid (And.intro (H2.out.1.kept k3) (H2.out.2.trans' (k3.mono (S' := [w.heap.size + 1]) (by simp))))
      obtain ⟨x0, x1, x2⟩ := H3.out.1.cells
      have xf := H3.out.1.free
      clear k3 y0 y1 y2 yf
      gi_wp2_with (fail)
      exact HE.out _ _ _ _ HP.out (H3.out.1.setSize _) (.of (H3.out.2.setCell (.inl (by simp)) _)) HI.out.2.2.2
    · have HP := Lib.hid (hp h)
      clear hp
      gi_wp2_with (fail)
      exact HE.out _ _ _ _ HP.out H2.out.1 (.of H2.out.2) HI.out.2.2.2
  case done =>
    rw [hsz]
    rintro D W hD ⟨⟨v, hpr⟩, hz, hk, hds, hbig⟩ hK
    have HLEN := Lib.hid (foldP_len s.length (WX.linesG s) WX.zeroR (WX.linesG_each s) ⟨by simp [WX.zeroR], by simp [WX.zeroR], by simp [WX.zeroR], by simp [WX.zeroR]⟩)
    have HRP : Hid (WX.readP s = (WX.linesG s).foldl WX.takeP WX.zeroR) := Lib.hid rfl
    obtain ⟨h, hh⟩ : ∃ h, (WX.linesG s).foldl WX.takeP WX.zeroR = h := ⟨_, rfl⟩
    rw [hh] at hpr hds HLEN HRP
    obtain ⟨p2, c2, rfl⟩ := hpr.own.form
    have hds' : (h.ds.length : Int) ≤ 9 := by omega
    have HP := Lib.hid (And.intro hpr (And.intro hz (And.intro hk hK)))
    have hD2 : w.heap.size < D := by omega
    obtain ⟨⟨t, e⟩, hp⟩ : ∃ r, WX.printF h = r := ⟨_, rfl⟩
    have HPC := Lib.hid (print_any h (.slice p2 h.ds.length c2) W (hpr.own.texts (by omega)) (by have := HLEN.out.1; omega) (fun d hd => by have := HLEN.out.2.1 d hd; omega) HLEN.out.2.2.1 HLEN.out.2.2.2 (HT.out.kept hk).tabs (HT.out.kept hk).pow (t, e) hp)
    have HPF := Lib.hid hp
    obtain ⟨x0, x1, x2⟩ := hpr.cells
    clear hpr hz hk hK hh hp hbx hinv hsz
    gi_wp2_with (fail)
    refine ⟨trivial, ?_⟩
    refine (callsIn_wide.2 HPC.out).mono ?_
    rintro e' w3 ⟨rfl, k3⟩
    have H3 := Lib.hid (And.intro (HP.out.1.kept k3) (And.intro (k3.at HP.out.2.1 (by simp)) (And.intro (HP.out.2.2.1.trans' k3) (k3.at HP.out.2.2.2 (by simp)))))
    obtain ⟨y0, y1, y2⟩ := H3.out.1.cells
    obtain ⟨z0, z1, z2⟩ := cells3r H3.out.2.1
    have zf : ∀ i, w3.frozen? ⟨w.heap.size, i, none⟩ = false := fun i => free_at H3.out.2.1 i
    clear k3 x0 x1 x2
    have HWY := Lib.hid (hwhy_any s w3 hs (HT.out.kept H3.out.2.2.1) _ rfl)
    have HEND : Hid (∀ (w4 : World) (tmps : Array Value), Kept [] w3 w4 → ¬ (t = s ∧ e = 0) → tmps.getD 2 undef = Ptr w.heap.size → tmps.getD 3 undef = I (WX.whyF s) → bodyPostM Fence.wide 9 Tryd.prog Tryd.f33 (HdrPost w r) .ret { tmps := tmps, defers := [{ target := .collected D, args := #[] }] } (((w4.setCell ⟨w.heap.size, 0, none⟩ (S [])).setCell ⟨w.heap.size, 1, none⟩ nilV).setCell ⟨w.heap.size, 2, none⟩ (I 0))) := Lib.hid (by
      intro w4 tmps k4 hne t2 t3
      refine hparse_end (h := WX.zeroR) (v := nilV) _ _ _ (k4.at H3.out.2.1 (by simp)) (OwnT.nil _ _) (H3.out.2.2.1.trans' k4) hD2 (k4.at H3.out.2.2.2 (by simp)) ?_ t2 t3
      rw [← HR.out]; unfold WX.parseF
      rw [HRP.out, HPF.out, if_neg (by rintro g; cases g; exact hne ⟨rfl, rfl⟩)])
    by_cases he : e = 0
    · subst he
      by_cases ht : t = s
      · have htb : (t == s) = true := by rw [beq_iff_eq]; exact ht
        have HRR : Hid (r = (h, 0)) := Lib.hid (by rw [← HR.out]; unfold WX.parseF; rw [HRP.out, HPF.out, ht, if_pos rfl])
        clear ht
        gi_wp2_with (fail)
        exact hparse_end _ _ _ H3.out.2.1 (H3.out.1.own.low (by omega)) H3.out.2.2.1 hD2 H3.out.2.2.2 HRR.out rfl rfl
      · have htb : (t == s) = false := by rw [beq_eq_false_iff_ne]; exact ht
        have HNE := Lib.hid ht
        clear ht
        gi_wp2_with (fail)
        refine ⟨trivial, ?_⟩
        refine (callsIn_wide.2 HWY.out).mono ?_
        rintro e' w4 ⟨rfl, k4⟩
        have H4 := Lib.hid k4
        obtain ⟨z0, z1, z2⟩ := cells3r (k4.at H3.out.2.1 (by simp))
        have zf4 : ∀ i, w4.frozen? ⟨w.heap.size, i, none⟩ = false := fun i => free_at (k4.at H3.out.2.1 (by simp)) i
        clear k4
        gi_wp2_with (fail)
        exact HEND.out _ _ H4.out (fun g => HNE.out g.1) rfl rfl
    · have heb : (e == 0) = false := by rw [beq_eq_false_iff_ne]; exact he
      have HNE := Lib.hid he
      clear he
      gi_wp2_with (fail)
      refine ⟨trivial, ?_⟩
      refine (callsIn_wide.2 HWY.out).mono ?_
      rintro e' w4 ⟨rfl, k4⟩
      have H4 := Lib.hid k4
      obtain ⟨z0, z1, z2⟩ := cells3r (k4.at H3.out.2.1 (by simp))
      have zf4 : ∀ i, w4.frozen? ⟨w.heap.size, i, none⟩ = false := fun i => free_at (k4.at H3.out.2.1 (by simp)) i
      clear k4
      gi_wp2_with (fail)
      exact HEND.out _ _ H4.out (fun g => HNE.out g.2) rfl rfl
  case stop =>
    rintro D pre W _ h _
    exact h.elim
end Go.Proofs.YtgdioalhlmnhhaaDoor
