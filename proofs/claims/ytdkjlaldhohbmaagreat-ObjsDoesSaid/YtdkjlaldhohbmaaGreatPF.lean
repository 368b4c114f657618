/- Walks and lemmas on the program of this seat, used by its statements; each theorem bears its own conditions. -/
import Derived.Test.YtdkjlaldhohbmaaGreatPD
import Derived.Test.YtdkjlaldhohbmaaGreatPE
import Derived.Handy
import Derived.OwnWalk
import Derived.Deep.AppendLies
import Derived.IntWalk
import Derived.Deep.CutRange
import Derived.Deep.RegionHeld3
import Derived.Deep.RegionLaw
import Derived.Deep.OwnRows
namespace Go.Proofs.YtdkjlaldhohbmaaGreat
open Go.RowKit
set_option linter.unusedVariables false
set_option linter.unusedSimpArgs false
set_option maxHeartbeats 8000000
set_option maxRecDepth 100000
/-! ### A clean flash -/
def flNew (n : Nat) : Fl := ⟨List.replicate (512 * n) 255, List.replicate n 0, 0, 0, 0, 0, false⟩
theorem madeI (n : Nat) : madeCells #[I 0] n = ((List.replicate n (0 : Int)).map fun n => I n).toArray := by
  apply Array.ext
  · simp [madeCells]
  · intro i h1 h2
    simp [madeCells, Nat.mod_one]
set_option maxHeartbeats 1000000 in
theorem fof_any (w : World) (g n : Nat) (h1 : 1 ≤ n) (h2 : n ≤ 256) (hr : RowX w g (List.replicate (512 * n) 255)) :
    Calls Tryz.prog 68 #[.slice (some ⟨g, 0, none⟩) (512 * n) (512 * n)] w fun e w' => ∃ fb cb, e = .returned (.tuple #[Ptr fb, I 0]) ∧ w.heap.size ≤ fb ∧ w.heap.size ≤ cb ∧ FlAt w' fb g cb (flNew n) ∧ Kept [] w w' := by
  have HR := Lib.hid hr
  clear hr
  obtain ⟨N, hN⟩ : ∃ N, 512 * n = N := ⟨_, rfl⟩
  rw [hN] at HR ⊢
  have hd : (N : Int) / 512 = n := by omega
  have hm : (N : Int) % 512 = 0 := by omega
  have hNI : (N : Int) ≤ 131072 := by omega
  have hnI : (1 : Int) ≤ n := by omega
  have hnI2 : (n : Int) ≤ 256 := by omega
  have HN := Lib.hid hN
  have hmk := run_make_row' (P := Tryz.prog) 34 3 (.int .i64 0) 8 Tryz.underlying34 int_info rfl .i64 .i64 n (by omega) (by omega) w
  clear hN
  go_enter Tryz.func68, Tryz.ntmps68
  go_wp2_with (fail)
  go_ret2
  have k1 : Kept [] w (w.alloc (.cells (madeCells #[I 0] n) 3)) := (Kept.refl [] w).alloc _
  have b1 := heap_new w (.cells (madeCells #[I 0] n) 3)
  have hgl : g < w.heap.size := HR.out.lt
  have hN := HN.out
  refine ⟨_, _, rfl, by omega, Nat.le_refl _, ⟨?_, ?_, ?_, by omega, by omega, by omega, by simp [flNew], by simp [flNew]; omega, by simp [flNew]; omega⟩, k1.alloc _⟩
  · have := heap_new (w.alloc (.cells (madeCells #[I 0] n) 3)) (Obj.cells #[.slice (some ⟨g, 0, none⟩) N N, .slice (some ⟨w.heap.size, 0, none⟩) n n, I 0, I 0, I 0, B 0, .bool false] 87)
    rw [World.size_alloc] at this
    refine this.trans ?_
    simp [flNew, Fl.arr, hN]
  · show RowX _ g (List.replicate (512 * n) 255)
    rw [hN]
    exact HR.out.kept (k1.alloc _) (by simp)
  · show Nums _ w.heap.size (List.replicate n 0)
    unfold Nums
    rw [← madeI]
    exact ((Kept.refl [] (w.alloc (.cells (madeCells #[I 0] n) 3))).alloc _).at b1 (by simp)
set_option maxHeartbeats 1000000 in
theorem fnew_any (w : World) (n : Nat) (h1 : 1 ≤ n) (h2 : n ≤ 256) :
    Calls Tryz.prog 34 #[I n] w fun e w' => ∃ fb g cb, e = .returned (.tuple #[Ptr fb, I 0]) ∧ w.heap.size ≤ fb ∧ w.heap.size ≤ g ∧ w.heap.size ≤ cb ∧ FlAt w' fb g cb (flNew n) ∧ Kept [] w w' := by
  have hnI : (1 : Int) ≤ n := by omega
  have hnI2 : (n : Int) ≤ 256 := by omega
  obtain ⟨W, hW⟩ : ∃ W, w.alloc (.cells #[B 255] 5) = W := ⟨_, rfl⟩
  have hk : Kept [] w W := by rw [← hW]; exact (Kept.refl [] w).alloc _
  have hc : W.cell? ⟨w.heap.size, 0, none⟩ = some (B 255) := by rw [← hW]; exact cell_at (heap_new w _) 0
  have HRP := Lib.hid (repeat_any W w.heap.size 1 (512 * n) (by omega) (by omega) hc)
  obtain ⟨N, hN⟩ : ∃ N, 512 * n = N := ⟨_, rfl⟩
  have HOF := Lib.hid (fun W' g (h : RowX W' g (List.replicate N 255)) => by have := fof_any W' g n h1 h2 (by rw [hN]; exact h); rw [hN] at this; exact this)
  rw [hN] at HRP
  have hmul : (n : Int) * 512 = N := by omega
  have HK := Lib.hid hk
  have hNI : (N : Int) ≤ 131072 := by omega
  clear hk hc hN
  go_enter Tryz.func34, Tryz.ntmps34
  go_wp2_with (fail)
  rw [show w.alloc (.cells #[.int .u8 255] 5) = W from hW]
  refine HRP.out.mono ?_
  rintro e w2 ⟨g, rfl, hg, hr, k2⟩
  have HR2 := Lib.hid (And.intro hr (And.intro hg k2))
  clear hr hg k2 hW
  go_wp2_with (fail)
  refine (HOF.out w2 g HR2.out.1).mono ?_
  rintro e w3 ⟨fb, cb, rfl, h1, h2, hf, k3⟩
  have H3 := Lib.hid (And.intro hf (And.intro k3 (And.intro h1 h2)))
  clear hf k3 h1 h2
  go_wp2_with (fail)
  go_ret2
  have hs1 := HK.out.size
  have hs2 := HR2.out.2.2.size
  exact ⟨fb, g, cb, rfl, by have := H3.out.2.2.1; omega, by have := HR2.out.2.1; omega, by have := H3.out.2.2.2; omega, H3.out.1, (HK.out.trans' HR2.out.2.2).trans' H3.out.2.1⟩
set_option maxHeartbeats 1000000 in
theorem pnew_any (w : World) (fb bb cb fs n : Nat) (f : Fl) (h : FlAt w fb bb cb f) (h1 : 1 ≤ n) (h2 : fs + n ≤ f.cs.length) :
    Calls Tryz.prog 62 #[Ptr fb, .agg #[I fs, I n]] w fun e w' => ∃ pb, e = .returned (.tuple #[Ptr pb, I 0]) ∧ w.heap.size ≤ pb ∧ PtAt w' pb fb bb cb fs n f ∧ Kept [] w w' := by
  have hfew := h.few
  obtain ⟨W, hW⟩ : ∃ W, w.alloc (.cells #[I fs, I n] 102) = W := ⟨_, rfl⟩
  have hk : Kept [] w W := by rw [← hW]; exact (Kept.refl [] w).alloc _
  have HB := Lib.hid (fun W' (k : Kept [] w W') => blocks_any W' fb bb cb f (h.kept k (by simp) (by simp) (by simp)))
  have HH := Lib.hid (And.intro h hk)
  obtain ⟨L, hL⟩ : ∃ L, f.cs.length = L := ⟨_, rfl⟩
  rw [hL] at HB
  have i1 : (0 : Int) ≤ fs := by omega
  have i2 : (1 : Int) ≤ n := by omega
  have i3 : (fs : Int) ≤ L := by omega
  have i4 : (n : Int) ≤ L - fs := by omega
  have i5 : (L : Int) ≤ 256 := by omega
  have HL := Lib.hid (And.intro h1 h2)
  have hb := heap_new w (.cells #[I fs, I n] 102)
  rw [hW] at hb
  have c0 := cell_at hb 0
  have c1 := cell_at hb 1
  simp only [List.getElem?_toArray, List.getElem?_cons_zero, List.getElem?_cons_succ] at c0 c1
  have HQ := Lib.hid (HB.out W hk)
  clear h hk h1 h2 hL hfew hb
  go_enter Tryz.func62, Tryz.ntmps62
  have hd1 : decide ((fs : Int) < 0) = false := decide_eq_false (by omega)
  have hd2 : decide ((n : Int) < 1) = false := decide_eq_false (by omega)
  have hd3 : decide (L < fs) = false := decide_eq_false (by omega)
  have hd4 : decide ((L : Int) - fs < n) = false := decide_eq_false (by omega)
  have hwr : IntKind.i64.wrap ((L : Int) - fs) = (L : Int) - fs := by rw [IntKind.wrap_i64]; omega
  go_upto_region 1 with (fail)
  go_quiet ((go_at_call 17; exact Calls.quiet_of_same (HB.out _ (HH.out.2.drewN _))))
  go_wp2_with (fail)
  go_ret2
  obtain ⟨hf, hk⟩ := HH.out
  have kk : Kept [] w ((W.drewN nq).alloc (Obj.cells #[Ptr fb, I fs, I n] 125)) := (hk.drewN nq).alloc _
  have h3 := hf.lt
  have h4 := hf.row.lt
  have h5 := lt_of_block hf.cnt
  have h6 := hk.size
  refine ⟨_, rfl, h6, ⟨?_, hf.kept kk (by simp) (by simp) (by simp), HL.out.2, HL.out.1, by omega, by omega, by omega⟩, kk⟩
  exact heap_new (W.drewN nq) _
/-- A part of a clean flash: all but the first block. -/
def ptNew (n : Nat) : Fl := flNew (n + 1)
set_option maxHeartbeats 1000000 in
theorem over_any (w : World) (fb bb cb n : Nat) (f : Fl) (h : FlAt w fb bb cb f) (h1 : 1 ≤ n) (h2 : f.cs.length = n + 1) :
    Calls Tryz.prog 29 #[Ptr fb] w fun e w' => ∃ pb, e = .returned (Ptr pb) ∧ w.heap.size ≤ pb ∧ PtAt w' pb fb bb cb 1 n f ∧ Kept [] w w' := by
  have HB := Lib.hid (blocks_any w fb bb cb f h)
  have HP := Lib.hid (pnew_any w fb bb cb 1 n f h h1 (by omega))
  have hfew := h.few
  rw [h2] at HB hfew
  have hnI : (n : Int) ≤ 255 := by omega
  have hwr : IntKind.i64.wrap (((n + 1 : Nat) : Int) - 1) = (n : Int) := by rw [IntKind.wrap_i64]; omega
  clear h h1 h2 hfew
  obtain ⟨N, hN⟩ : ∃ N : Nat, n + 1 = N := ⟨_, rfl⟩
  rw [hN] at HB hwr
  clear hN
  go_enter Tryz.func29, Tryz.ntmps29
  go_wp2_with (fail)
  refine HB.out.mono ?_
  rintro e w1 ⟨rfl, rfl⟩
  go_wp2_with (fail)
  refine HP.out.mono ?_
  rintro e w2 ⟨pb, rfl, hpb, hpt, k2⟩
  have H2 := Lib.hid (And.intro hpb (And.intro hpt k2))
  clear hpb hpt k2
  go_wp2_with (fail)
  go_ret
  exact ⟨pb, rfl, H2.out⟩
/-- How many blocks. -/
def blkF (n : Int) : Nat := (max 8 (min n 20)).toNat
theorem blkF_bound (n : Int) : 8 ≤ blkF n ∧ blkF n ≤ 20 ∧ (blkF n : Int) = max 8 (min n 20) := by unfold blkF; omega
theorem lawblk_any (w : World) (n : Int) : Calls Tryz.prog 35 #[I n] w fun e w' => e = .returned (I (blkF n)) ∧ w' = w := by
  have h := (blkF_bound n).2.2
  have h2 : max (8 : Int) (min n 20) = (blkF n : Int) := h.symm
  obtain ⟨q, hq⟩ : ∃ q, blkF n = q := ⟨_, rfl⟩
  rw [hq] at h2 ⊢
  clear h hq
  go_enter Tryz.func35, Tryz.ntmps35
  go_wp2_with (fail)
  go_ret
  exact ⟨rfl, rfl⟩
/-! ### Format: an empty store -/
def St0 : St := ⟨0, [], [], []⟩
theorem st0_segs : St0.segs = [[]] := rfl
theorem inv0 {n : Nat} (hn : 1 ≤ n) : InvS n St0 where
  few := by simp [St0]; omega
  recs := by
    intro rs hrs
    rw [st0_segs, List.mem_singleton] at hrs
    subst hrs
    exact ⟨by simp [usedS], fun l hl => by cases hl⟩
  sorted := List.Pairwise.nil
  placed := fun k o h => by cases h
  rep := rfl
theorem cs0 {n : Nat} (hn : 1 ≤ n) (f : Fl) (h : f.cs = List.replicate (n + 1) 0) : CsOK n f 0 := by
  have hz : ∀ k, numAt f.cs k = 0 := fun k => by
    rw [h]; unfold numAt
    rw [List.getD_eq_getElem?_getD, List.getElem?_replicate]
    split <;> rfl
  refine ⟨fun k hk => ?_, hz 0, by rw [h, List.length_replicate]⟩
  rw [hz, Nat.div_eq_of_lt (by omega)]; rfl
theorem fl0 {n : Nat} (f : Fl) (hn : 1 ≤ n) (hl : 512 * (1 + n) ≤ f.bs.length) (hc : ∀ k, k < n → blockOf f.bs (1 + k) = fullB) : FlOK n (madeF f 1 0 1) St0 := by
  intro j hj
  rw [st0_segs]
  show blockOf _ (1 + (0 + j) % n) = _
  rw [Nat.zero_add, Nat.mod_eq_of_lt hj]
  cases j with
  | zero => exact seg_made f 1 0 1 (by omega) (hc 0 hj)
  | succ j =>
    show _ = fullB
    rw [seg_made_other f 1 0 1 _ (by omega) (by omega)]
    exact hc _ hj
theorem made_live (f : Fl) (fs k num : Nat) : (madeF f fs k num).dead = f.dead ∧ (madeF f fs k num).armed = f.armed ∧ (madeF f fs k num).cs = f.cs := ⟨rfl, rfl, rfl⟩
theorem ct0 : CtOK St0 [] := by
  refine ⟨fun j rs hj => ?_, fun k hk => rfl⟩
  rw [st0_segs] at hj
  cases j with
  | zero => cases hj; rfl
  | succ j => cases hj
/-- An empty store. -/
def SNew (w : World) (pb fb bb cb n : Nat) (f : Fl) (e : Ending) (w' : World) : Prop :=
  ∃ sb lb mb kb v, e = .returned (.tuple #[Ptr sb, I 0]) ∧ SAt w' sb lb pb fb bb cb mb kb n v St0 f ∧ w.heap.size ≤ sb ∧ w.heap.size ≤ lb ∧ w.heap.size ≤ mb ∧ w.heap.size ≤ kb ∧ (∀ q, v.ownBlock = some q → w.heap.size ≤ q) ∧ Kept [fb, bb, cb] w w'
set_option maxHeartbeats 2000000 in
theorem sformat_any (w : World) (pb fb bb cb n : Nat) (f : Fl) (h : PtAt w pb fb bb cb 1 n f) (hd : f.dead = false) (ha : f.armed = 0) (h8 : 8 ≤ n) (hc : ∀ k, k < n → blockOf f.bs (1 + k) = fullB) :
    Calls Tryz.prog 36 #[Ptr pb] w (SNew w pb fb bb cb n (madeF f 1 0 1)) := by
  have HS := Lib.hid (size_any w pb fb bb cb 1 n f h)
  have HL := Lib.hid (lformat_any w pb fb bb cb 1 n f h hd ha (by omega) hc)
  have hb := h.bound
  obtain ⟨N, hN⟩ : ∃ N : Nat, n * 512 = N := ⟨_, rfl⟩
  rw [hN] at HS
  have hNI : ¬ (N : Int) < 4096 := by omega
  have HH := Lib.hid (And.intro h (And.intro hd (And.intro ha (And.intro h8 hc))))
  clear h hd ha h8 hc hb hN
  go_enter Tryz.func36, Tryz.ntmps36
  go_wp2_with (fail)
  refine HS.out.mono ?_
  rintro e w1 ⟨rfl, rfl⟩
  go_wp2_with (fail)
  refine HL.out.mono ?_
  rintro e w2 ⟨lb, v, hlb, rfl, hlg, hv, k2⟩
  have H2 := Lib.hid (And.intro hlb (And.intro hlg (And.intro hv k2)))
  clear hlb hlg hv k2
  have m1 : (Instr.makeMap 66 none).run Tryz.prog w2 = .ok (.map (some w2.heap.size)) (w2.alloc (.map #[] 0)) := rfl
  have m2 : (Instr.makeMap 67 none).run Tryz.prog (w2.alloc (.map #[] 0)) = .ok (.map (some (w2.heap.size + 1))) ((w2.alloc (.map #[] 0)).alloc (.map #[] 0)) := by rw [← World.size_alloc]; rfl
  go_wp2_with (fail)
  go_ret2
  obtain ⟨hlb, hlg, hv, k2⟩ := H2.out
  obtain ⟨h, hd, ha, h8, hc⟩ := HH.out
  obtain ⟨W1, hW1⟩ : ∃ W1, w2.alloc (.map #[] 0) = W1 := ⟨_, rfl⟩
  have s1 : W1.heap.size = w2.heap.size + 1 := by rw [← hW1, World.size_alloc]
  have o1 : ObAt W1 w2.heap.size [] := by rw [← hW1]; exact amap_made w2
  have kA : Kept [] w2 W1 := by rw [← hW1]; exact (Kept.refl [] w2).alloc _
  obtain ⟨W2, hW2⟩ : ∃ W2, W1.alloc (.map #[] 0) = W2 := ⟨_, rfl⟩
  have s2 : W2.heap.size = w2.heap.size + 2 := by rw [← hW2, World.size_alloc, s1]
  have o2 : CtAt W2 (w2.heap.size + 1) [] := by rw [← hW2, ← s1]; exact amap_made W1
  have kB : Kept [] W1 W2 := by rw [← hW2]; exact (Kept.refl [] W1).alloc _
  obtain ⟨W3, hW3⟩ : ∃ W3, W2.alloc (.cells #[Ptr pb, Ptr lb, .map (some w2.heap.size), .map (some (w2.heap.size + 1)), I 0, .bool false] 69) = W3 := ⟨_, rfl⟩
  have hb3 : W3.heap[w2.heap.size + 2]? = some (.cells #[Ptr pb, Ptr lb, .map (some w2.heap.size), .map (some (w2.heap.size + 1)), I 0, .bool false] 69 (0, 0)) := by rw [← hW3, ← s2]; exact heap_new W2 _
  have kC : Kept [] W2 W3 := by rw [← hW3]; exact (Kept.refl [] W2).alloc _
  have k3 : Kept [] w2 W3 := (kA.trans' kB).trans' kC
  have l1 := hlg.lt
  have l2 := hlg.n1
  have l3 := hlg.n2
  have l4 := hlg.n3
  have l5 := hlg.n4
  have l6 := k2.size
  have l7 := h.bound
  rw [hW1, hW2, hW3]
  refine ⟨_, lb, w2.heap.size, w2.heap.size + 1, v, rfl, ⟨?_, ⟨[], ⟨hb3, o1.same (kB.trans' kC), o2.same kC, by omega, by omega, by omega⟩, ct0⟩, fl0 f (by omega) (by omega) hc, inv0 (by omega), ⟨hd, ha⟩, ?_⟩, by omega, hlb, by omega, by omega, hv, k2.trans' (k3.mono (by simp))⟩
  · have e : sgs n St0.D St0.segs = [(0, 1)] := by
      show [(0 % n, 0 + 1)] = _
      rw [Nat.zero_mod]
    rw [e]
    exact hlg.same k3
  · intro x hx
    have hown : ∀ q, v.ownBlock = some q → q < w2.heap.size := fun q hq => (own_lt hlg.own q hq).2
    have hxs : w2.heap.size ≤ x := by simp at hx; omega
    refine ⟨fun hm => ?_, by omega⟩
    simp only [LgT, List.mem_append, Option.mem_toList] at hm
    rcases hm with hm | hm
    · simp at hm; omega
    · have := hown x (by simpa using hm); omega
/-! ### laid -/
def flLaid (n : Nat) : Fl := madeF (flNew (n + 1)) 1 0 1
theorem new_clean (n k : Nat) (h : k ≤ n) : blockOf (flNew (n + 1)).bs k = fullB := by
  show ((List.replicate (512 * (n + 1)) 255).drop (512 * k)).take 512 = List.replicate 512 255
  rw [List.drop_replicate, List.take_replicate]
  congr 1
  omega
theorem laid_good (n : Nat) (h : 8 ≤ n) : GoodS n St0 (flLaid n) :=
  ⟨h, by simp [St0]; omega, Nat.zero_le _, cs0 (by omega) _ rfl⟩
/-- What laid tells. -/
def LaidPost (n : Nat) (w : World) (e : Ending) (w' : World) : Prop :=
  ∃ fb bb cb pb sb lb mb kb rb v, e = .returned (.tuple #[Ptr fb, Ptr sb, Ptr rb]) ∧ SAt w' sb lb pb fb bb cb mb kb n v St0 (flLaid n) ∧ w'.heap[rb]? = some (.cells #[I n, .slice none 0 0] 50 (0, 0)) ∧ (∀ x, x ∈ StT sb lb fb bb cb mb kb v ∨ x = pb → w.heap.size ≤ x ∧ x < rb) ∧ Kept [] w w'
set_option maxHeartbeats 2000000 in
theorem laid15_any (w : World) (m : Int) : Calls Tryz.prog 9 #[I m] w (LaidPost (blkF m) w) := by
  obtain ⟨q1, q2, _⟩ := blkF_bound m
  have HB := Lib.hid (fun W => lawblk_any W m)
  obtain ⟨n, hn⟩ : ∃ n, blkF m = n := ⟨_, rfl⟩
  rw [hn] at HB q1 q2 ⊢
  have HN := Lib.hid (fnew_any w (n + 1) (by omega) (by omega))
  have HO := Lib.hid (fun W fb bb cb (h : FlAt W fb bb cb (flNew (n + 1))) => over_any W fb bb cb n _ h (by omega) (by simp [flNew]))
  have HF := Lib.hid (fun W pb fb bb cb (h : PtAt W pb fb bb cb 1 n (flNew (n + 1))) => sformat_any W pb fb bb cb n _ h rfl rfl q1 (fun k hk => new_clean n (1 + k) (by omega)))
  have HQ := Lib.hid (And.intro q1 q2)
  have hadd : IntKind.i64.wrap ((n : Int) + 1) = ((n + 1 : Nat) : Int) := by rw [IntKind.wrap_i64]; omega
  obtain ⟨N, hN⟩ : ∃ N, n + 1 = N := ⟨_, rfl⟩
  have hz : flLaid n = madeF (flNew N) 1 0 1 := by rw [← hN]; rfl
  have HZ := Lib.hid hz
  rw [hN] at HN HO HF hadd
  have hnI : (n : Int) ≤ 20 := by omega
  clear hN q1 q2 hz hn
  go_enter Tryz.func9, Tryz.ntmps9
  go_wp2_with (fail)
  refine (HB.out _).mono ?_
  rintro e w1 ⟨rfl, rfl⟩
  go_wp2_with (fail)
  refine HN.out.mono ?_
  rintro e w2 ⟨fb, bb, cb, rfl, g1, g2, g3, hf, k2⟩
  have H2 := Lib.hid (And.intro g1 (And.intro g2 (And.intro g3 (And.intro hf k2))))
  clear g1 g2 g3 hf k2
  go_wp2_with (fail)
  refine (HO.out _ _ _ _ H2.out.2.2.2.1).mono ?_
  rintro e w3 ⟨pb, rfl, g4, hp, k3⟩
  have H3 := Lib.hid (And.intro g4 (And.intro hp k3))
  clear g4 hp k3
  go_wp2_with (fail)
  refine (HF.out _ _ _ _ _ H3.out.2.1).mono ?_
  rintro e w4 ⟨sb, lb, mb, kb, v, rfl, hs, g5, g6, g7, g8, g9, k4⟩
  have H4 := Lib.hid (And.intro hs (And.intro g5 (And.intro g6 (And.intro g7 (And.intro g8 (And.intro g9 k4))))))
  clear hs g5 g6 g7 g8 g9 k4
  go_wp2_with (fail)
  refine (HB.out _).mono ?_
  rintro e w5 ⟨rfl, rfl⟩
  go_wp2_with (fail)
  go_ret3
  obtain ⟨g1, g2, g3, hf, k2⟩ := H2.out
  obtain ⟨g4, hp, k3⟩ := H3.out
  obtain ⟨hs, g5, g6, g7, g8, g9, k4⟩ := H4.out
  have z2 := k2.size
  have z3 := k3.size
  have z4 := k4.size
  have hk := (Kept.refl [] w5).alloc (.cells #[I n, .slice none 0 0] 50)
  rw [← HZ.out] at hs
  have hlt := stT_lt hs
  refine ⟨fb, bb, cb, pb, sb, lb, mb, kb, w5.heap.size, v, rfl, hs.same hk, heap_new w5 _, ?_, ((k2.trans' k3).new k4 (by intro x hx; simp at hx; omega)).trans' hk⟩
  intro x hx
  rcases hx with hx | rfl
  · refine ⟨?_, hlt.1 x hx⟩
    simp only [StT, LgT, List.mem_append, Option.mem_toList] at hx
    rcases hx with hx | hx | hx
    · simp at hx; omega
    · simp at hx; omega
    · have := g9 x (by simpa using hx); omega
  · exact ⟨by omega, hlt.2⟩
end Go.Proofs.YtdkjlaldhohbmaaGreat
