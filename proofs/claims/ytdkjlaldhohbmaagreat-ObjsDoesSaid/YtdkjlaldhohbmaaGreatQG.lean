/- Walks and lemmas on the program of this seat, used by its statements; each theorem bears its own conditions. -/
import Derived.Test.YtdkjlaldhohbmaaGreatPG
import Derived.Handy
import Derived.OwnWalk
import Derived.Deep.AppendLies
import Derived.IntWalk
import Derived.Deep.CutRange
import Derived.Deep.RegionHeld3
import Derived.Deep.RegionLaw
import Derived.Maps.OwnSet
import Derived.Maps.Range
import Derived.Deep.OwnRows
import Derived.Shelf.SlMaps.Clone
import Derived.Laws.CopyOwn
import Derived.Laws.IdiomCopy
namespace Go.Proofs.YtdkjlaldhohbmaaGreat
open Go.RowKit
set_option linter.unusedVariables false
set_option linter.unusedSimpArgs false
set_option maxHeartbeats 8000000
set_option maxRecDepth 100000
/-! ### maps.Clone, laid -/
def cloneOb_ren : Go.Shelf.Ren := ⟨fun | 5 => 64 | 7 => 94 | n => n, fun | 4 => 4 | 20 => 20 | 23 => 66 | 25 => 3 | 3 => 77 | n => n, fun | n => n⟩
theorem cloneOb : SlLaysW.n5 Tryz.prog cloneOb_ren := {
  mixed := by kernel_rfl
  f5 := ⟨ "maps.Clone[map[int]farrier/objs.object,int,farrier/objs.object]", by decide, Tryz.func64.trans (congrArg some (by kernel_rfl))⟩
  f7 := Tryz.func94.trans (congrArg some (by kernel_rfl))
  t4 := Tryz.underlying4
  a4 := Tryz.isAgg4
  z4 := Tryz.sizeOf4
  v4 := Tryz.zeroValue4
  t20 := Tryz.underlying20
  a20 := Tryz.isAgg20
  z20 := Tryz.sizeOf20
  v20 := Tryz.zeroValue20
  t23 := Tryz.underlying66
  a23 := Tryz.isAgg66
  z23 := Tryz.sizeOf66
  v23 := Tryz.zeroValue66
 }
def cloneCt_ren : Go.Shelf.Ren := ⟨fun | 5 => 65 | 7 => 94 | n => n, fun | 4 => 4 | 20 => 20 | 23 => 67 | 25 => 3 | 3 => 3 | n => n, fun | n => n⟩
theorem cloneCt : SlLaysW.n5 Tryz.prog cloneCt_ren := {
  mixed := by kernel_rfl
  f5 := ⟨ "maps.Clone[map[int]int,int,int]", by decide, Tryz.func65.trans (congrArg some (by kernel_rfl))⟩
  f7 := Tryz.func94.trans (congrArg some (by kernel_rfl))
  t4 := Tryz.underlying4
  a4 := Tryz.isAgg4
  z4 := Tryz.sizeOf4
  v4 := Tryz.zeroValue4
  t20 := Tryz.underlying20
  a20 := Tryz.isAgg20
  z20 := Tryz.sizeOf20
  v20 := Tryz.zeroValue20
  t23 := Tryz.underlying67
  a23 := Tryz.isAgg67
  z23 := Tryz.sizeOf67
  v23 := Tryz.zeroValue67
 }
theorem ob_clone (w : World) (b : Nat) (M : OM) (h : ObAt w b M) :
    Calls Tryz.prog 64 #[.map (some b)] w fun e w' => e = .returned (.map (some w.heap.size)) ∧ ObAt w' w.heap.size M ∧ Kept [] w w' := by
  obtain ⟨D, h1, h2⟩ := h.own
  refine (AnyW.maps_Clone_owns cloneOb 3 obR b M.length D w h1).mono ?_
  rintro e w' ⟨rfl, o1, o2, hb⟩
  exact ⟨rfl, ⟨⟨D, o1, h2⟩, h.srt⟩, Kept.of_below hb (Nat.le_refl _)⟩
theorem ct_clone (w : World) (b : Nat) (C : List (Int × Nat)) (h : CtAt w b C) :
    Calls Tryz.prog 65 #[.map (some b)] w fun e w' => e = .returned (.map (some w.heap.size)) ∧ CtAt w' w.heap.size C ∧ Kept [] w w' := by
  obtain ⟨D, h1, h2⟩ := h.own
  refine (AnyW.maps_Clone_owns cloneCt 3 ctR b C.length D w h1).mono ?_
  rintro e w' ⟨rfl, o1, o2, hb⟩
  exact ⟨rfl, ⟨⟨D, o1, h2⟩, h.srt⟩, Kept.of_below hb (Nat.le_refl _)⟩
/-! ### Clones -/
set_option maxHeartbeats 4000000 in
theorem lclone_any (w : World) (lb pb fb bb cb fs n : Nat) (v : Value) (segs : List Sg) (f : Fl) (dead : Bool) (h : LgAt w lb pb fb bb cb fs n v segs f dead) (h1 : 1 ≤ segs.length) (hs : segs.length ≤ 1000) (pb2 fb2 bb2 cb2 : Nat) (f2 : Fl) (hp : PtAt w pb2 fb2 bb2 cb2 fs n f2) :
    Calls Tryz.prog 63 #[Ptr lb, Ptr pb2] w fun e w' => ∃ lb2 v2, e = .returned (Ptr lb2) ∧ w.heap.size ≤ lb2 ∧ LgAt w' lb2 pb2 fb2 bb2 cb2 fs n v2 segs f2 dead ∧ (∀ q, v2.ownBlock = some q → w.heap.size ≤ q) ∧ Kept [] w w' := by
  obtain ⟨g, c, hv, hcl⟩ := h.slice (by intro h0; rw [h0] at h1; simp at h1)
  subst hv
  obtain ⟨c0, c1, c2⟩ := h.cells
  have HSC := Lib.hid (fun W (k : Kept [] w W) => sclone_any W segs g c h1 (by omega) (fun i hi => ⟨k.cellOf (hcl i hi).1, k.cellOf (hcl i hi).2⟩))
  have HB := Lib.hid (And.intro h (And.intro hp (And.intro hcl h1)))
  have hblk := h.blk
  clear h hp hcl h1 hs
  obtain ⟨W1, hW1⟩ : ∃ W1, w.alloc (.cells #[Ptr pb, .slice (some ⟨g, 0, none⟩) segs.length c, .bool dead] 116) = W1 := ⟨_, rfl⟩
  have k1 : Kept [] w W1 := by rw [← hW1]; exact (Kept.refl _ _).alloc _
  have hb1 : W1.heap[w.heap.size]? = some (.cells #[Ptr pb, .slice (some ⟨g, 0, none⟩) segs.length c, .bool dead] 116 (0, 0)) := by rw [← hW1]; exact heap_new w _
  have d1 := k1.cellOf c1
  have hs1 : W1.heap.size = w.heap.size + 1 := by rw [← hW1, World.size_alloc]
  have H1 := Lib.hid (And.intro k1 (And.intro hb1 hs1))
  clear k1 hb1 hs1
  go_enter Tryz.func63, Tryz.ntmps63
  go_wp2_with (fail)
  refine (HSC.out W1 H1.out.1).mono ?_
  rintro e w2 ⟨⟨g2, c2', rfl, hg2, own2⟩, k2⟩
  have hb2 := k2.at H1.out.2.1 (by simp)
  have q0 : ∀ i : Nat, i < 3 → (w2.cell? ⟨w.heap.size, i, none⟩).isSome = true := fun i hi => by
    rw [cell_at hb2]
    match i, hi with
    | 0, _ => rfl
    | 1, _ => rfl
    | 2, _ => rfl
  have q1 : w2.cell? ⟨w.heap.size, 0, none⟩ = some (Ptr pb) := by rw [cell_at hb2]; rfl
  have q2 : w2.cell? ⟨w.heap.size, 1, none⟩ = some (.slice (some ⟨g, 0, none⟩) segs.length c) := by rw [cell_at hb2]; rfl
  have qf : ∀ i, w2.frozen? ⟨w.heap.size, i, none⟩ = false := free_at hb2
  have H2 := Lib.hid (And.intro own2 (And.intro k2 (And.intro hb2 hg2)))
  clear own2 k2 hb2 hg2
  go_wp2_with (fail)
  go_ret
  obtain ⟨own2, k2, hb2, hg2⟩ := H2.out
  obtain ⟨k1, hb1, hs1⟩ := H1.out
  obtain ⟨h, hp, hcl, h1⟩ := HB.out
  have h3 := heap_setCell_at hb2 0 (Ptr pb2)
  have h4 := heap_setCell_at h3 1 (.slice (some ⟨g2, 0, none⟩) segs.length c2')
  have kf : Kept [w.heap.size] w2 ((w2.setCell ⟨w.heap.size, 0, none⟩ (Ptr pb2)).setCell ⟨w.heap.size, 1, none⟩ (.slice (some ⟨g2, 0, none⟩) segs.length c2')) := ((Kept.refl _ _).setCell (.inl (by simp)) _).setCell (.inl (by simp)) _
  have k02 := k1.trans' k2
  have l1 := lt_of_block hp.blk
  have l2 := hp.fl.lt
  have l3 := hp.fl.lt2
  have l4 := hp.fl.lt3
  refine ⟨w.heap.size, _, rfl, Nat.le_refl _, ⟨by simpa using h4, ?_, (hp.same k02).kept kf (by simp; omega) (by simp; omega) (by simp; omega) (by simp; omega), by omega, by omega, by omega, by omega⟩, fun q hq => ?_, k02.new kf (fun x hx => by simp at hx; omega)⟩
  · have := own_kept own2 kf (fun q hq hm => by have : q = g2 := by simpa [Value.ownBlock, eq_comm] using hq
                                                simp at hm; omega)
    rw [hs1] at this
    exact this
  · have : q = g2 := by simpa [Value.ownBlock, eq_comm] using hq
    omega
/-! ### flash.Clone -/
theorem step_copy_kept {P : Program} {ops : Array Oper} {o : Oper} {a : Act} {w : World} {K : Act → World → Prop} {Q : Exit → Act → World → Prop} {E : Prop} (hgd : o.guard = none) (d s : Operand) (dT sT : TypeId)
    (ho : o.op = .call { callee := .builtin .copy, args := #[d, s], argTypes := #[dT, sT] }) (elem : TypeId) (hu : P.underlying dT = some (.slice elem)) (hsz : (P.info? elem).map (·.size) = some 1)
    (g n cap sb sc : Nat) (hd : a.eval d = .slice (some ⟨g, 0, none⟩) n cap) (hs : a.eval s = .slice (some ⟨sb, 0, none⟩) n sc)
    (cur : List Value) (t : TypeId) (hg : w.heap[g]? = some (.cells cur.toArray t (0, 0))) (cs : List Value) (hn : cs.length = n) (hc : cur.length = n)
    (hsrc : ∀ j v, cs[j]? = some v → w.cell? ⟨sb, j, none⟩ = some v) (h1 : ∀ v ∈ cs, v.oneCell' = true) (hpos : 0 < n)
    (h : ∀ w', Hid (w'.heap[g]? = some (.cells cs.toArray t (0, 0))) → Hid (Kept [g] w w') → K (a.put o.dst (goInt cs.length)) w') :
    if Region.wanted o (yielded ops a.tmps) = true then Oper.wp P o a w K Q else E := by
  have hw : Region.wanted o (yielded ops a.tmps) = true := by simp [Region.wanted, hgd]
  rw [if_pos hw]
  have hrun := run_copy_row (P := P) w dT sT o.type elem g 0 n cap ⟨sb, 0, none⟩ n sc cur.toArray t cs hu hsz hg (by rw [hn]; simp) (fun j v hv => by rw [Addr.add_lit, Nat.zero_add]; exact hsrc j v hv) (by simp; omega) h1
  unfold Oper.wp
  simp [execOp, ho, resolve, invoke, builtin, hd, hs, hrun, Result.andThen]
  refine h _ ?_ (setRow_kept w g _)
  have := setRow_heap w g cur.toArray (splice cur 0 cs).toArray t _ hg
  show _ = _
  have e : splice cur 0 cs = cs := by simp [splice, hn, hc]
  rw [e] at this
  have e3 : cs ++ List.drop n cur = cs := by rw [List.drop_of_length_le (by omega), List.append_nil]
  simpa [splice, hn, hc, e3] using this
theorem int_size : (Tryz.prog.info? 3).map (·.size) = some 1 := by kernel_rfl
set_option maxHeartbeats 4000000 in
theorem fclone_any (w : World) (fb bb cb : Nat) (f : Fl) (h : FlAt w fb bb cb f) :
    Calls Tryz.prog 30 #[Ptr fb] w fun e w' => ∃ fb2 bb2 cb2, e = .returned (Ptr fb2) ∧ w.heap.size ≤ fb2 ∧ w.heap.size ≤ bb2 ∧ w.heap.size ≤ cb2 ∧ FlAt w' fb2 bb2 cb2 f ∧ Kept [] w w' := by
  obtain ⟨c0, c1, c2, c3, c4, c5, c6⟩ := h.cells
  have hsz := h.size
  have hfw := h.few
  have hps := h.pos
  have hln := h.len
  obtain ⟨N, hN⟩ : ∃ N, f.bs.length = N := ⟨_, rfl⟩
  obtain ⟨M, hM⟩ : ∃ M, f.cs.length = M := ⟨_, rfl⟩
  have mB : ∀ W, (Instr.makeSlice 83 (I N) (I N)).run Tryz.prog W = .ok (.slice (some ⟨W.heap.size, 0, none⟩) N N) (W.alloc (.cells (Lib.byteCells (zerosL N)).toArray 5)) := fun W => make_bytes W N (by omega)
  have mI := fun W => run_make_row' (P := Tryz.prog) 34 3 (.int .i64 0) 8 Tryz.underlying34 int_info rfl .i64 .i64 M (by omega) (by omega) W
  rw [hN] at c0
  rw [hM] at c1
  have hfb2 : w.heap.size = w.heap.size := rfl
  obtain ⟨W1, hW1⟩ : ∃ W1, w.alloc (.cells (f.arr bb cb) 87) = W1 := ⟨_, rfl⟩
  have k1 : Kept [] w W1 := by rw [← hW1]; exact (Kept.refl _ _).alloc _
  have hb1 : W1.heap[w.heap.size]? = some (.cells (f.arr bb cb) 87 (0, 0)) := by rw [← hW1]; exact heap_new w _
  have hs1 : W1.heap.size = w.heap.size + 1 := by rw [← hW1, World.size_alloc]
  have H1 := Lib.hid (And.intro k1 (And.intro hb1 (And.intro hs1 (And.intro h (And.intro hN (And.intro hM (And.intro hln (And.intro hsz (And.intro hfw (And.intro hps hfb2))))))))))
  have d0 := k1.cellOf c0
  have d1 := k1.cellOf c1
  unfold Fl.arr at hW1
  rw [hN, hM] at hW1
  clear k1 hb1 hs1 h hN hM hln hsz hfw hps hfb2
  go_enter Tryz.func30, Tryz.ntmps30
  go_upto_region 2 with (fail)
  go_cut [] from 7 to 20 (fun wx => ∃ bb2 cb2, w.heap.size < bb2 ∧ w.heap.size < cb2 ∧ bb2 ≠ cb2 ∧ wx.heap[w.heap.size]? = some (.cells #[.slice (some ⟨bb2, 0, none⟩) N N, .slice (some ⟨cb2, 0, none⟩) M M, I f.st, I f.armed, I f.keep, B f.mask, .bool f.dead] 87 (0, 0)) ∧ wx.heap[bb2]? = some (.cells (Lib.byteCells (zerosL N)).toArray 5 (0, 0)) ∧ wx.heap[cb2]? = some (.cells (madeCells #[I 0] M) 3 (0, 0)) ∧ Kept [] w wx)
  case first =>
    obtain ⟨OI, hOI⟩ : ∃ OI, Obj.cells (madeCells #[I 0] M) 3 = OI := ⟨_, rfl⟩
    obtain ⟨OB, hOB⟩ : ∃ OB, Obj.cells (Lib.byteCells (zerosL N)).toArray 5 = OB := ⟨_, rfl⟩
    simp only [hOI] at mI
    simp only [hOB] at mB
    have kI : Kept [] W1 (W1.alloc OI) := (Kept.refl _ _).alloc _
    have kB : Kept [] W1 (W1.alloc OB) := (Kept.refl _ _).alloc _
    have kIB : Kept [] W1 ((W1.alloc OI).alloc OB) := kI.alloc _
    have kBI : Kept [] W1 ((W1.alloc OB).alloc OI) := kB.alloc _
    have a1 := kI.cellOf d0
    have a2 := kB.cellOf d1
    have a1d := kI.drew.cellOf d0
    have a2d := kB.drew.cellOf d1
    have hbI := kIB.at H1.out.2.1 (by simp)
    have hbB := kBI.at H1.out.2.1 (by simp)
    have b1 := cell_at hbI 0
    have b2 := cell_at hbI 1
    have b3 := cell_at hbB 0
    have b4 := cell_at hbB 1
    have b5 := free_at hbI
    have b6 := free_at hbB
    simp only [Fl.arr, List.getElem?_toArray, List.getElem?_cons_zero, List.getElem?_cons_succ] at b1 b2 b3 b4
    have g1 : ∀ o, (W1.alloc o).heap[w.heap.size]? = some (.cells (f.arr bb cb) 87 (0, 0)) := fun o => ((Kept.refl [] W1).alloc o).at H1.out.2.1 (by simp)
    have g2 : ∀ o (i : Nat) v, ((W1.alloc o).setCell ⟨w.heap.size, i, none⟩ v).heap[w.heap.size]? = some (.cells ((f.arr bb cb).setIfInBounds i v) 87 (0, 0)) := fun o i v => heap_setCell_at (g1 o) i v
    have g3 : ∀ o (i : Nat) v o', (((W1.alloc o).setCell ⟨w.heap.size, i, none⟩ v).alloc o').heap[w.heap.size]? = some (.cells ((f.arr bb cb).setIfInBounds i v) 87 (0, 0)) := fun o i v o' => ((Kept.refl [] _).alloc o').at (g2 o i v) (by simp)
    have l0 : ∀ o, (W1.alloc o).cell? ⟨w.heap.size, 0, none⟩ = some (.slice (some ⟨bb, 0, none⟩) N N) := fun o => by rw [cell_at (g1 o)]; simp [Fl.arr, H1.out.2.2.2.2.1]
    have l1 : ∀ o, (W1.alloc o).cell? ⟨w.heap.size, 1, none⟩ = some (.slice (some ⟨cb, 0, none⟩) M M) := fun o => by rw [cell_at (g1 o)]; simp [Fl.arr, H1.out.2.2.2.2.2.1]
    have l2 : ∀ o (i : Nat), (W1.alloc o).frozen? ⟨w.heap.size, i, none⟩ = false := fun o i => free_at (g1 o) i
    have l3 : ∀ o v o', (((W1.alloc o).setCell ⟨w.heap.size, 0, none⟩ v).alloc o').cell? ⟨w.heap.size, 1, none⟩ = some (.slice (some ⟨cb, 0, none⟩) M M) := fun o v o' => by rw [cell_at (g3 o 0 v o')]; simp [Fl.arr, H1.out.2.2.2.2.2.1]
    have l4 : ∀ o v o', (((W1.alloc o).setCell ⟨w.heap.size, 1, none⟩ v).alloc o').cell? ⟨w.heap.size, 0, none⟩ = some (.slice (some ⟨bb, 0, none⟩) N N) := fun o v o' => by rw [cell_at (g3 o 1 v o')]; simp [Fl.arr, H1.out.2.2.2.2.1]
    have l5 : ∀ o (i : Nat) v o' (j : Nat), (((W1.alloc o).setCell ⟨w.heap.size, i, none⟩ v).alloc o').frozen? ⟨w.heap.size, j, none⟩ = false := fun o i v o' j => free_at (g3 o i v o') j
    have hfbn : ¬ fb = w.heap.size := by have := H1.out.2.2.2.1.lt; have := H1.out.2.2.2.2.2.2.2.2.2.2; omega
    have HG := Lib.hid (And.intro g1 (And.intro g2 g3))
    clear g1 g2 g3
    have HBB := Lib.hid (And.intro hbI (And.intro hbB (And.intro kIB kBI)))
    clear hbI hbB kI kB kIB kBI
    have hw1 := H1.out.2.2.1
    have fA : ∀ (O1 O2 : Obj), ((W1.alloc O1).alloc O2).heap[W1.heap.size]? = some O1 ∧ ((W1.alloc O1).alloc O2).heap[W1.heap.size + 1]? = some O2 ∧ Kept [] W1 ((W1.alloc O1).alloc O2) := fun O1 O2 => by
      refine ⟨?_, ?_, ((Kept.refl [] W1).alloc _).alloc _⟩
      · have := ((Kept.refl [] (W1.alloc O1)).alloc O2).block W1.heap.size (by rw [World.size_alloc]; omega) (by simp)
        rw [this]; exact heap_new W1 O1
      · have := heap_new (W1.alloc O1) O2
        rw [World.size_alloc] at this
        exact this
    have fC : ∀ (O1 O2 : Obj) (i : Nat) (v : Value), (((W1.alloc O1).setCell ⟨w.heap.size, i, none⟩ v).alloc O2).heap[W1.heap.size]? = some O1 ∧ (((W1.alloc O1).setCell ⟨w.heap.size, i, none⟩ v).alloc O2).heap[W1.heap.size + 1]? = some O2 ∧ Kept [w.heap.size] W1 (((W1.alloc O1).setCell ⟨w.heap.size, i, none⟩ v).alloc O2) := fun O1 O2 i v => by
      have e1 : ((W1.alloc O1).setCell ⟨w.heap.size, i, none⟩ v).heap.size = W1.heap.size + 1 := by rw [World.size_setCell, World.size_alloc]
      refine ⟨?_, ?_, ((((Kept.refl [w.heap.size] W1).alloc _).setCell (.inl (by simp)) _).alloc _)⟩
      · have := ((Kept.refl [] ((W1.alloc O1).setCell ⟨w.heap.size, i, none⟩ v)).alloc O2).block W1.heap.size (by rw [e1]; omega) (by simp)
        rw [this, set_other (by omega)]; exact heap_new W1 O1
      · have := heap_new ((W1.alloc O1).setCell ⟨w.heap.size, i, none⟩ v) O2
        rw [e1] at this
        exact this
    obtain ⟨g1, g2, g3⟩ := HG.out
    have hN := H1.out.2.2.2.2.1
    have hM := H1.out.2.2.2.2.2.1
    have k01 := H1.out.1
    have HFIN : Hid (∀ (Z X : World) (bb2 cb2 : Nat), w.heap.size < bb2 → w.heap.size < cb2 → bb2 ≠ cb2 → Z.heap[bb2]? = some OB → Z.heap[cb2]? = some OI → Kept [w.heap.size] W1 Z → Kept [w.heap.size] Z X → X.heap[w.heap.size]? = some (.cells #[.slice (some ⟨bb2, 0, none⟩) N N, .slice (some ⟨cb2, 0, none⟩) M M, I f.st, I f.armed, I f.keep, B f.mask, .bool f.dead] 87 (0, 0)) →
        ∃ bb2 cb2, w.heap.size < bb2 ∧ w.heap.size < cb2 ∧ bb2 ≠ cb2 ∧ X.heap[w.heap.size]? = some (.cells #[.slice (some ⟨bb2, 0, none⟩) N N, .slice (some ⟨cb2, 0, none⟩) M M, I f.st, I f.armed, I f.keep, B f.mask, .bool f.dead] 87 (0, 0)) ∧ X.heap[bb2]? = some OB ∧ X.heap[cb2]? = some OI ∧ Kept [] w X) := Lib.hid (fun Z X bb2 cb2 q1 q2 q3 q4 q5 q6 q7 q8 =>
      ⟨bb2, cb2, q1, q2, q3, q8, q7.at q4 (by simp; omega), q7.at q5 (by simp; omega), k01.new (q6.trans' q7) (fun x hx => by simp at hx; omega)⟩)
    have HFA := Lib.hid fA
    have HFC := Lib.hid fC
    clear fA fC g1 g2 g3 hN hM k01 hw1
    go_region
    all_goals
      go_wp2
      go_meet
    · have hw1 := H1.out.2.2.1
      obtain ⟨g1, g2, g3⟩ := HG.out
      have hN := H1.out.2.2.2.2.1
      have hM := H1.out.2.2.2.2.2.1
      obtain ⟨hbI, hbB, kIB, kBI⟩ := HBB.out
      rw [hOI, hOB]
      exact HFIN.out ((W1.alloc OB).alloc OI) (World.drew (World.setCell (World.setCell ((W1.alloc OB).alloc OI) ⟨w.heap.size, 0, none⟩ (.slice (some ⟨W1.heap.size, 0, none⟩) N N)) ⟨w.heap.size, 1, none⟩ (.slice (some ⟨(W1.heap.size + 1), 0, none⟩) M M))) W1.heap.size (W1.heap.size + 1) (by omega) (by omega) (by omega) (HFA.out OB OI).1 (HFA.out OB OI).2.1 ((HFA.out OB OI).2.2.mono (by simp)) (((Kept.refl [w.heap.size] ((W1.alloc OB).alloc OI)).setCell (.inl (by simp)) _).setCell (.inl (by simp)) _).drew (by have := heap_setCell_at (heap_setCell_at hbB 0 (.slice (some ⟨W1.heap.size, 0, none⟩) N N)) 1 (.slice (some ⟨(W1.heap.size + 1), 0, none⟩) M M); exact this.trans (by simp [Fl.arr]))
    · have hw1 := H1.out.2.2.1
      obtain ⟨g1, g2, g3⟩ := HG.out
      have hN := H1.out.2.2.2.2.1
      have hM := H1.out.2.2.2.2.2.1
      obtain ⟨hbI, hbB, kIB, kBI⟩ := HBB.out
      rw [hOI, hOB]
      exact HFIN.out (World.alloc (World.setCell (W1.alloc OB) ⟨w.heap.size, 0, none⟩ (.slice (some ⟨W1.heap.size, 0, none⟩) N N)) OI) (World.drew (World.setCell (World.alloc (World.setCell (W1.alloc OB) ⟨w.heap.size, 0, none⟩ (.slice (some ⟨W1.heap.size, 0, none⟩) N N)) OI) ⟨w.heap.size, 1, none⟩ (.slice (some ⟨(W1.heap.size + 1), 0, none⟩) M M))) W1.heap.size (W1.heap.size + 1) (by omega) (by omega) (by omega) (HFC.out OB OI 0 _).1 (HFC.out OB OI 0 _).2.1 (HFC.out OB OI 0 _).2.2 ((Kept.refl [w.heap.size] (World.alloc (World.setCell (W1.alloc OB) ⟨w.heap.size, 0, none⟩ (.slice (some ⟨W1.heap.size, 0, none⟩) N N)) OI)).setCell (.inl (by simp)) _).drew (by have := heap_setCell_at (g3 OB 0 (.slice (some ⟨W1.heap.size, 0, none⟩) N N) OI) 1 (.slice (some ⟨(W1.heap.size + 1), 0, none⟩) M M); exact this.trans (by simp [Fl.arr]))
    · have hw1 := H1.out.2.2.1
      obtain ⟨g1, g2, g3⟩ := HG.out
      have hN := H1.out.2.2.2.2.1
      have hM := H1.out.2.2.2.2.2.1
      obtain ⟨hbI, hbB, kIB, kBI⟩ := HBB.out
      rw [hOI, hOB]
      exact HFIN.out ((W1.alloc OI).alloc OB) (World.drew (World.setCell (World.setCell ((W1.alloc OI).alloc OB) ⟨w.heap.size, 0, none⟩ (.slice (some ⟨(W1.heap.size + 1), 0, none⟩) N N)) ⟨w.heap.size, 1, none⟩ (.slice (some ⟨W1.heap.size, 0, none⟩) M M))) (W1.heap.size + 1) W1.heap.size (by omega) (by omega) (by omega) (HFA.out OI OB).2.1 (HFA.out OI OB).1 ((HFA.out OI OB).2.2.mono (by simp)) (((Kept.refl [w.heap.size] ((W1.alloc OI).alloc OB)).setCell (.inl (by simp)) _).setCell (.inl (by simp)) _).drew (by have := heap_setCell_at (heap_setCell_at hbI 0 (.slice (some ⟨(W1.heap.size + 1), 0, none⟩) N N)) 1 (.slice (some ⟨W1.heap.size, 0, none⟩) M M); exact this.trans (by simp [Fl.arr]))
  case rest =>
  obtain ⟨bb2, cb2, n1, n2, n3, r1, r2, r3, kx⟩ := hcut
  obtain ⟨k1, hb1, hs1, h, hN, hM, hln, hsz, hfw, hps, hfb2⟩ := H1.out
  have e0 := cell_at r1 0
  have e1 := cell_at r1 1
  simp only [List.getElem?_toArray, List.getElem?_cons_zero, List.getElem?_cons_succ] at e0 e1
  have f0 := kx.cellOf c0
  have f1 := kx.cellOf c1
  have hbr : Hid (∀ W, Kept [] w W → ∀ j v, (Lib.byteCells f.bs)[j]? = some v → W.cell? ⟨bb, j, none⟩ = some v) := Lib.hid (fun W k j v hj => by
    have hjl : j < f.bs.length := by have := (List.getElem?_eq_some_iff.1 hj).1; simpa [Lib.byteCells] using this
    rw [byteCells_at f.bs j hjl] at hj
    cases hj
    exact k.cellOf (h.row.cell j hjl))
  have hcr : Hid (∀ W, Kept [] w W → ∀ j v, (f.cs.map fun n => I n)[j]? = some v → W.cell? ⟨cb, j, none⟩ = some v) := Lib.hid (fun W k j v hj => by
    have hjl : j < f.cs.length := by have := (List.getElem?_eq_some_iff.1 hj).1; simpa using this
    have := k.cellOf (h.cnt.cell j hjl)
    rw [this, ← hj]
    simp [numAt, hjl])
  have HX := Lib.hid (And.intro n1 (And.intro n2 (And.intro n3 (And.intro r1 (And.intro r2 (And.intro r3 (And.intro kx (And.intro hN hM))))))))
  have hN1 : 0 < N := by omega
  have hM1 : 0 < M := by omega
  have HNM := Lib.hid (And.intro hN1 hM1)
  have e0d := (Kept.refl [] wc).drew.cellOf e0
  have f0d := (Kept.refl [] wc).drew.cellOf f0
  clear n1 n2 n3 r1 r2 r3 k1 hb1 hs1 h hN hM hln hsz hfw hps hfb2 kx hN1 hM1 mB mI d0 d1 hW1
  go_upto_region 3 with (fail)
  go_region_law (refine step_copy_kept rfl (.tmp 22) (.tmp 26) 83 83 rfl 5 Tryz.underlying83 byte_size bb2 N N bb N (by simp [Act.eval, Act.put]) (by simp [Act.eval, Act.put]) (Lib.byteCells (zerosL N)) 5 HX.out.2.2.2.2.1 (Lib.byteCells f.bs) (by rw [Lib.byteCells_length]; exact HX.out.2.2.2.2.2.2.2.1) (by rw [Lib.byteCells_length, zerosL_len]) (hbr.out _ HX.out.2.2.2.2.2.2.1.drew) (by intro v hv; obtain ⟨x, _, rfl⟩ := List.mem_map.1 hv; rfl) HNM.out.1 ?_; intro w4 hg4 hk4)
  all_goals
    obtain ⟨n1, n2, n3, r1, r2, r3, kx, hN, hM⟩ := HX.out
    have hk4' : Kept [bb2] wc w4 := ((Kept.refl [bb2] wc).drew).trans' hk4.out
    have r1' := hk4'.at r1 (by simp; omega)
    have r3' := hk4'.at r3 (by simpa using Ne.symm n3)
    have g1 := cell_at r1' 1
    simp only [List.getElem?_toArray, List.getElem?_cons_zero, List.getElem?_cons_succ] at g1
    have kx4 : Kept [] w w4 := kx.new hk4' (fun x hx => by simp at hx; omega)
    have g2 := kx4.cellOf c1
    have hH4 := Lib.hid (And.intro r1' (And.intro r3' (And.intro kx4 hg4)))
    clear n1 n2 n3 r1 r2 r3 kx hN hM hk4' r1' r3' kx4 e0 e1 f0 f1 e0d f0d hg4 hk4
    go_wp2
    go_region_law (refine step_copy_kept rfl (.tmp 29) (.tmp 33) 34 34 rfl 3 Tryz.underlying34 int_size cb2 M M cb M (by simp [Act.eval, Act.put]) (by simp [Act.eval, Act.put]) (madeCells #[I 0] M).toList 3 hH4.out.2.1 (f.cs.map fun n => I n) (by rw [List.length_map]; exact HX.out.2.2.2.2.2.2.2.2) (by rw [madeI]; simp) (hcr.out _ hH4.out.2.2.1.drew) (by intro v hv; obtain ⟨x, _, rfl⟩ := List.mem_map.1 hv; rfl) HNM.out.2 ?_; intro w5 hg5 hk5)
    all_goals
      go_wp2
      go_ret
      obtain ⟨n1, n2, n3, r1, r2, r3, kx, hN, hM⟩ := HX.out
      obtain ⟨r1', r3', kx4, hg4⟩ := hH4.out
      have hk5' : Kept [cb2] w4 w5 := ((Kept.refl [cb2] w4).drew).trans' hk5.out
      obtain ⟨k1, hb1, hs1, h, _, _, hln, hsz, hfw, hps, _⟩ := H1.out
      refine ⟨w.heap.size, bb2, cb2, rfl, Nat.le_refl _, by omega, by omega, ⟨?_, Row.toX (hk5'.at hg4.out (by simpa using n3)), hg5.out, by omega, by omega, Ne.symm n3, hln, hfw, hps⟩, kx4.new hk5' (fun x hx => by simp at hx; omega)⟩
      have := hk5'.at r1' (by simp; omega)
      rw [this]
      unfold Fl.arr
      rw [hN, hM]
/-! ### objs.Clone -/
abbrev CS (z sb lb mb kb : Nat) (W1 w' : World) : Prop := w'.cell? ⟨sb, 1, none⟩ = some (Ptr lb) ∧ w'.cell? ⟨sb, 2, none⟩ = some (.map (some mb)) ∧ w'.cell? ⟨sb, 3, none⟩ = some (.map (some kb)) ∧ Kept [z] W1 w'
theorem CS.step {z sb lb mb kb : Nat} {W1 w' w'' : World} (hz : sb ≠ z) (h : CS z sb lb mb kb W1 w') (k : Kept [z] w' w'') : CS z sb lb mb kb W1 w'' :=
  have hn : sb ∉ [z] := by simpa using hz
  ⟨(k.cell (p := ⟨sb, 1, none⟩) (World.block_lt_of_cell? w' _ h.1) hn).trans h.1, (k.cell (p := ⟨sb, 2, none⟩) (World.block_lt_of_cell? w' _ h.2.1) hn).trans h.2.1, (k.cell (p := ⟨sb, 3, none⟩) (World.block_lt_of_cell? w' _ h.2.2.1) hn).trans h.2.2.1, h.2.2.2.trans' k⟩
theorem CS.step0 {z sb lb mb kb : Nat} {W1 w' w'' : World} (hz : sb ≠ z) (h : CS z sb lb mb kb W1 w') (k : Kept [] w' w'') : CS z sb lb mb kb W1 w'' := CS.step hz h (k.mono (by simp))
theorem CS.from {z sb lb mb kb : Nat} {w W1 w' : World} (h : CS z sb lb mb kb W1 w') (hz : w.heap.size ≤ z) (k : Kept [] w W1) : Kept [] w w' := k.new h.2.2.2 (fun x hx => by simp at hx; omega)
set_option maxHeartbeats 8000000 in
theorem oclone_any (w : World) (sb lb pb fb bb cb mb kb n : Nat) (v : Value) (st : St) (f : Fl) (h : SAt w sb lb pb fb bb cb mb kb n v st f) (pb2 fb2 bb2 cb2 : Nat) (hp : PtAt w pb2 fb2 bb2 cb2 1 n f) :
    Calls Tryz.prog 31 #[Ptr sb, Ptr pb2] w fun e w' => ∃ sb2 lb2 mb2 kb2 v2, e = .returned (Ptr sb2) ∧ SAt w' sb2 lb2 pb2 fb2 bb2 cb2 mb2 kb2 n v2 st f ∧ w.heap.size ≤ sb2 ∧ w.heap.size ≤ lb2 ∧ w.heap.size ≤ mb2 ∧ w.heap.size ≤ kb2 ∧ (∀ q, v2.ownBlock = some q → w.heap.size ≤ q) ∧ Kept [] w w' := by
  obtain ⟨C, hc, hct⟩ := h.core
  obtain ⟨c0, c1, c2, c3, c4, c5⟩ := hc.cells
  have hbd := h.bound.1
  have hfew := h.inv.few
  have HLC := Lib.hid (fun W (k : Kept [] w W) => lclone_any W lb pb fb bb cb 1 n v _ f false (h.lg.same k) (by rw [sgs_len, segs_len]; omega) (by rw [sgs_len, segs_len]; omega) pb2 fb2 bb2 cb2 f (hp.same k))
  have HOC := Lib.hid (fun W (k : Kept [] w W) => ob_clone W mb st.M (hc.ob.same k))
  have HCC := Lib.hid (fun W (k : Kept [] w W) => ct_clone W kb C (hc.ct.same k))
  obtain ⟨X, hX⟩ : ∃ X, sumA wO st.M = X := ⟨_, rfl⟩
  rw [hX] at c4
  have HC1 := Lib.hid (fun W (k : Kept [] w W) => (hc.same k).cells)
  have HB0 := Lib.hid (And.intro h (And.intro hp (And.intro hc (And.intro hct hX))))
  clear h hp hc hct hX hbd hfew
  go_enter Tryz.func31, Tryz.ntmps31
  go_upto_region 2 with (fail)
  obtain ⟨W1, hW1⟩ : ∃ W1, w.alloc (.cells #[Ptr pb, Ptr lb, .map (some mb), .map (some kb), I X, .bool false] 69) = W1 := ⟨_, rfl⟩
  have k1 : Kept [] w W1 := by rw [← hW1]; exact (Kept.refl _ _).alloc _
  have hb1 : W1.heap[w.heap.size]? = some (.cells #[Ptr pb, Ptr lb, .map (some mb), .map (some kb), I X, .bool false] 69 (0, 0)) := by rw [← hW1]; exact heap_new w _
  have hs1 : W1.heap.size = w.heap.size + 1 := by rw [← hW1, World.size_alloc]
  obtain ⟨h, hp, hc, hct, hX⟩ := HB0.out
  have HB := Lib.hid (And.intro h (And.intro hp (And.intro hc (And.intro hct (And.intro hX (And.intro k1 (And.intro hb1 hs1)))))))
  clear h hp hc hct hX k1 hb1 hs1 HB0
  rw [show w.alloc (.cells #[Ptr pb, Ptr lb, .map (some mb), .map (some kb), I X, .bool false] 69) = W1 from hW1]
  go_cut [] from 9 to 29 (fun wx => ∃ lb2 mb2 kb2 v2, w.heap.size < lb2 ∧ w.heap.size < mb2 ∧ w.heap.size < kb2 ∧ mb2 ≠ kb2 ∧ (∀ q, v2.ownBlock = some q → w.heap.size < q ∧ q ≠ mb2 ∧ q ≠ kb2) ∧ lb2 ≠ mb2 ∧ lb2 ≠ kb2 ∧ wx.heap[w.heap.size]? = some (.cells #[Ptr pb2, Ptr lb2, .map (some mb2), .map (some kb2), I X, .bool false] 69 (0, 0)) ∧ LgAt wx lb2 pb2 fb2 bb2 cb2 1 n v2 (sgs n st.D st.segs) f false ∧ ObAt wx mb2 st.M ∧ CtAt wx kb2 C ∧ Kept [] w wx)
  case first =>
    obtain ⟨t0, t1, t2, t3, t4, t5⟩ := HC1.out W1 HB.out.2.2.2.2.2.1
    have hcs : CS w.heap.size sb lb mb kb W1 W1 := ⟨t1, t2, t3, Kept.refl _ _⟩
    have hz : sb ≠ w.heap.size := by have := HB.out.2.2.1.lt; omega
    have K1 := HB.out.2.2.2.2.2.1
    clear t0 t1 t2 t3 t4 t5
    go_region_held3 (fun w' => CS w.heap.size sb lb mb kb W1 w')
      (first | with_reducible assumption | exact CS.step0 hz hcs ((Kept.refl _ _).drew) | exact CS.step0 hz (by assumption) k2 | exact CS.step0 hz (by assumption) k3 | exact CS.step0 hz (by assumption) k4 | exact CS.step hz (by assumption) ((Kept.refl _ _).setCell (.inl (by simp)) _) | exact CS.step0 hz (by assumption) ((Kept.refl _ _).drew))
      (first
        | (go_at_call 63; (with_reducible refine (HLC.out _ (CS.from (by assumption) (Nat.le_refl _) K1)).mono ?_); rintro e w2 ⟨lb2, v2, rfl, q1, q2, q3, k2⟩)
        | (go_at_call 64; (with_reducible refine (HOC.out _ (CS.from (by assumption) (Nat.le_refl _) K1)).mono ?_); rintro e w3 ⟨rfl, q4, k3⟩)
        | (go_at_call 65; (with_reducible refine (HCC.out _ (CS.from (by assumption) (Nat.le_refl _) K1)).mono ?_); rintro e w4 ⟨rfl, q5, k4⟩; have hbX := k4.at (k3.at (k2.at HB.out.2.2.2.2.2.2.1 (by simp)) (by simp)) (by simp); have y0 := cell_at hbX 0; have y1 := cell_at hbX 1; have y2 := cell_at hbX 2; have y3 := cell_at hbX 3; have yf := free_at hbX; simp only [List.getElem?_toArray, List.getElem?_cons_zero, List.getElem?_cons_succ] at y0 y1 y2 y3))
    go_wp2
    go_meet
    obtain ⟨h, hp, hc, hct, hX, k1, hb1, hs1⟩ := HB.out
    have kst : Kept [w.heap.size] w4 ((((w4.setCell ⟨w.heap.size, 0, none⟩ (Ptr pb2)).setCell ⟨w.heap.size, 1, none⟩ (Ptr lb2)).setCell ⟨w.heap.size, 2, none⟩ (.map (some w2.heap.size))).setCell ⟨w.heap.size, 3, none⟩ (.map (some w3.heap.size))) := ((((Kept.refl [w.heap.size] w4).setCell (.inl (by simp)) _).setCell (.inl (by simp)) _).setCell (.inl (by simp)) _).setCell (.inl (by simp)) _
    have r4 := heap_setCell_at (heap_setCell_at (heap_setCell_at (heap_setCell_at hbX 0 (Ptr pb2)) 1 (Ptr lb2)) 2 (.map (some w2.heap.size))) 3 (.map (some w3.heap.size))
    have q1' : W1.heap.size ≤ lb2 := q1
    have q3' : ∀ q, v2.ownBlock = some q → W1.heap.size ≤ q := q3
    have l1 := lt_of_block hp.blk
    have l2 := hp.fl.lt
    have l3 := hp.fl.lt2
    have l4 := hp.fl.lt3
    have l5 := q2.lt
    have l6 := q4.lt
    have l7 := k3.size
    have l8 : W1.heap.size ≤ w2.heap.size := k2.size
    have k04 : Kept [] w w4 := ((k1.trans' (show Kept [] W1 w2 from ((Kept.refl [] W1).drew).trans' k2)).trans' k3).trans' k4
    refine ⟨lb2, w2.heap.size, w3.heap.size, v2, by omega, by omega, by omega, by omega, fun q hq => ?_, by omega, by omega, by refine r4.trans ?_; simp, ((q2.same k3).same k4).kept kst (by simp; omega) (by simp; omega) (by simp; omega) (by simp; omega) (by simp; omega) (fun q hq hm => ?_), (q4.same k4).kept kst (by simp; omega), q5.kept kst (by simp; omega), k04.new kst (fun x hx => by simp at hx; omega)⟩
    · have := q3' q hq
      have := (own_lt q2.own q hq).2
      omega
    · have := q3' q hq
      simp at hm
      omega
  case rest =>
  obtain ⟨lb2, mb2, kb2, v2, n1, n2, n3, n4, n5, n6, n7, r1, hl, ho, hcx, kx⟩ := hcut
  have HX := Lib.hid (And.intro n1 (And.intro n2 (And.intro n3 (And.intro n4 (And.intro n5 (And.intro n6 (And.intro n7 (And.intro r1 (And.intro hl (And.intro ho (And.intro hcx kx)))))))))))
  clear n1 n2 n3 n4 n5 n6 n7 r1 hl ho hcx kx
  go_wp2_with (fail)
  go_ret
  obtain ⟨n1, n2, n3, n4, n5, n6, n7, r1, hl, ho, hcx, kx⟩ := HX.out
  obtain ⟨h, hp, hc, hct, hX, k1, hb1, hs1⟩ := HB.out
  have l1 := lt_of_block hp.blk
  have l2 := hp.fl.lt
  have l3 := hp.fl.lt2
  have l4 := hp.fl.lt3
  refine ⟨w.heap.size, lb2, mb2, kb2, v2, rfl, ⟨hl, ⟨C, ⟨by rw [hX]; exact r1, ho, hcx, by omega, by omega, by omega⟩, hct⟩, h.fl, h.inv, h.live, fun x hx => ?_⟩, Nat.le_refl _, by omega, by omega, by omega, fun q hq => by have := (n5 q hq).1; omega, kx⟩
  have hxw : w.heap.size ≤ x := by simp at hx; omega
  refine ⟨fun hm => ?_, by omega⟩
  simp only [LgT, List.mem_append, Option.mem_toList] at hm
  rcases hm with hm | hm
  · simp at hm hx; omega
  · have := n5 x (by simpa using hm)
    simp at hx; omega
end Go.Proofs.YtdkjlaldhohbmaaGreat
