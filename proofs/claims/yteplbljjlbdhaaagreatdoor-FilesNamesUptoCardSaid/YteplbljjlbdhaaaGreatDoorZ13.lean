/- Walks and lemmas on the program of this seat, used by its statements; each theorem bears its own conditions. -/
import Derived.Test.YteplbljjlbdhaaaGreatDoorZ12
import Derived.Deep.OwnRows
import Derived.Shelf.SlMaps.Clone
namespace Go.Proofs.YteplbljjlbdhaaaGreatDoor
open Go.RowKit
set_option linter.unusedVariables false
set_option linter.unusedSimpArgs false
set_option linter.unusedSectionVars false
set_option maxHeartbeats 16000000
set_option maxRecDepth 100000
def flNew (n : Nat) : Fl := ⟨List.replicate (512 * n) 255, List.replicate n 0, 0, 0, 0, 0, false⟩
theorem madeI (n : Nat) : madeCells #[I 0] n = ((List.replicate n (0 : Int)).map fun n => I n).toArray := by
 apply Array.ext
 ·simp [madeCells]
 ·intro i h1 h2
  simp [madeCells, Nat.mod_one]
theorem fof_any (w : World) (g n : Nat) (h1 : 1 ≤ n) (h2 : n ≤ 256) (hr : RowX w g (List.replicate (512 * n) 255)) :
  Calls Tryz.prog 31 #[.slice (some ⟨g, 0, none⟩) (512 * n) (512 * n)] w fun e w' => ∃ fb cb, e = .returned (.tuple #[Ptr fb, I 0]) ∧ w.heap.size ≤ fb ∧ w.heap.size ≤ cb ∧ FlAt w' fb g cb (flNew n) ∧ Kept [] w w' := by
 have HR := Lib.hid hr
 clear hr
 obtain ⟨N, hN⟩ : ∃ N, 512 * n = N := ⟨_, rfl⟩
 rw [hN] at HR ⊢
 have hd : (N : Int) / 512 = n := by omega
 have hm : (N : Int) % 512 = 0 := by omega
 have hNI : (N : Int) ≤ 131072 := by omega
 have hnI : (1 : Int) ≤ n := by omega
 have hnI2 : (n : Int) ≤ 256 := by omega
 have HN := Lib.hid hN
 have hmk := run_make_row' (P := Tryz.prog) 124 3 (.int .i64 0) 8 Tryz.underlying124 int_info rfl .i64 .i64 n (by omega) (by omega) w
 clear hN
 go_enter Tryz.func31, Tryz.ntmps31
 go_wp2_with (fail)
 go_ret2
 have k1 : Kept [] w (w.alloc (.cells (madeCells #[I 0] n) 3)) := (Kept.refl [] w).alloc _
 have b1 := heap_new w (.cells (madeCells #[I 0] n) 3)
 have hgl : g < w.heap.size := HR.out.lt
 have hN := HN.out
 refine ⟨_, _, rfl, by omega, Nat.le_refl _, ⟨?_, ?_, ?_, by omega, by omega, by omega, by simp [flNew], by simp [flNew]; omega, by simp [flNew]; omega⟩, k1.alloc _⟩
 ·have := heap_new (w.alloc (.cells (madeCells #[I 0] n) 3)) (Obj.cells #[.slice (some ⟨g, 0, none⟩) N N, .slice (some ⟨w.heap.size, 0, none⟩) n n, I 0, I 0, I 0, B 0, .bool false] 126)
  rw [World.size_alloc] at this
  refine this.trans ?_
  simp [flNew, Fl.arr, hN]
 ·show RowX _ g (List.replicate (512 * n) 255)
  rw [hN]
  exact HR.out.kept (k1.alloc _) (by simp)
 ·show Nums _ w.heap.size (List.replicate n 0)
  unfold Nums
  rw [← madeI]
  exact ((Kept.refl [] (w.alloc (.cells (madeCells #[I 0] n) 3))).alloc _).at b1 (by simp)
theorem fnew_any (w : World) (n : Nat) (h1 : 1 ≤ n) (h2 : n ≤ 256) :
  Calls Tryz.prog 8 #[I n] w fun e w' => ∃ fb g cb, e = .returned (.tuple #[Ptr fb, I 0]) ∧ w.heap.size ≤ fb ∧ w.heap.size ≤ g ∧ w.heap.size ≤ cb ∧ FlAt w' fb g cb (flNew n) ∧ Kept [] w w' := by
 have hnI : (1 : Int) ≤ n := by omega
 have hnI2 : (n : Int) ≤ 256 := by omega
 obtain ⟨W, hW⟩ : ∃ W, w.alloc (.cells #[B 255] 5) = W := ⟨_, rfl⟩
 have hk : Kept [] w W := by rw [← hW]; exact (Kept.refl [] w).alloc _
 have hc : W.cell? ⟨w.heap.size, 0, none⟩ = some (B 255) := by rw [← hW]; exact cell_at (heap_new w _) 0
 have HRP := Lib.hid (repeat_any W w.heap.size 1 (512 * n) (by omega) (by omega) hc)
 obtain ⟨N, hN⟩ : ∃ N, 512 * n = N := ⟨_, rfl⟩
 have HOF := Lib.hid (fun W' g (h : RowX W' g (List.replicate N 255)) => by have := fof_any W' g n h1 h2 (by rw [hN]; exact h); rw [hN] at this; exact this)
 rw [hN] at HRP
 have hmul : (n : Int) * 512 = N := by omega
 have HK := Lib.hid hk
 have hNI : (N : Int) ≤ 131072 := by omega
 clear hk hc hN
 go_enter Tryz.func8, Tryz.ntmps8
 go_wp2_with (fail)
 rw [show w.alloc (.cells #[.int .u8 255] 5) = W from hW]
 refine HRP.out.mono ?_
 rintro e w2 ⟨g, rfl, hg, hr, k2⟩
 have HR2 := Lib.hid (And.intro hr (And.intro hg k2))
 clear hr hg k2 hW
 go_wp2_with (fail)
 refine (HOF.out w2 g HR2.out.1).mono ?_
 rintro e w3 ⟨fb, cb, rfl, h1, h2, hf, k3⟩
 have H3 := Lib.hid (And.intro hf (And.intro k3 (And.intro h1 h2)))
 clear hf k3 h1 h2
 go_wp2_with (fail)
 go_ret2
 have hs1 := HK.out.size
 have hs2 := HR2.out.2.2.size
 exact ⟨fb, g, cb, rfl, by have := H3.out.2.2.1; omega, by have := HR2.out.2.1; omega, by have := H3.out.2.2.2; omega, H3.out.1, (HK.out.trans' HR2.out.2.2).trans' H3.out.2.1⟩
theorem pnew_any (w : World) (fb bb cb fs n : Nat) (f : Fl) (h : FlAt w fb bb cb f) (h1 : 1 ≤ n) (h2 : fs + n ≤ f.cs.length) :
  Calls Tryz.prog 33 #[Ptr fb, .agg #[I fs, I n]] w fun e w' => ∃ pb, e = .returned (.tuple #[Ptr pb, I 0]) ∧ w.heap.size ≤ pb ∧ PtAt w' pb fb bb cb fs n f ∧ Kept [] w w' := by
 have hfew := h.few
 obtain ⟨W, hW⟩ : ∃ W, w.alloc (.cells #[I fs, I n] 71) = W := ⟨_, rfl⟩
 have hk : Kept [] w W := by rw [← hW]; exact (Kept.refl [] w).alloc _
 have HB := Lib.hid (fun W' (k : Kept [] w W') => blocks_any W' fb bb cb f (h.kept k (by simp) (by simp) (by simp)))
 have HH := Lib.hid (And.intro h hk)
 obtain ⟨L, hL⟩ : ∃ L, f.cs.length = L := ⟨_, rfl⟩
 rw [hL] at HB
 have i1 : (0 : Int) ≤ fs := by omega
 have i2 : (1 : Int) ≤ n := by omega
 have i3 : (fs : Int) ≤ L := by omega
 have i4 : (n : Int) ≤ L - fs := by omega
 have i5 : (L : Int) ≤ 256 := by omega
 have HL := Lib.hid (And.intro h1 h2)
 have hb := heap_new w (.cells #[I fs, I n] 71)
 rw [hW] at hb
 have c0 := cell_at hb 0
 have c1 := cell_at hb 1
 simp only [List.getElem?_toArray, List.getElem?_cons_zero, List.getElem?_cons_succ] at c0 c1
 have HQ := Lib.hid (HB.out W hk)
 clear h hk h1 h2 hL hfew hb
 go_enter Tryz.func33, Tryz.ntmps33
 have hd1 : decide ((fs : Int) < 0) = false := decide_eq_false (by omega)
 have hd2 : decide ((n : Int) < 1) = false := decide_eq_false (by omega)
 have hd3 : decide (L < fs) = false := decide_eq_false (by omega)
 have hd4 : decide ((L : Int) - fs < n) = false := decide_eq_false (by omega)
 have hwr : IntKind.i64.wrap ((L : Int) - fs) = (L : Int) - fs := by rw [IntKind.wrap_i64]; omega
 go_upto_region 1 with (fail)
 go_quiet ((go_at_call 34; exact Calls.quiet_of_same (HB.out _ (HH.out.2.drewN _))))
 go_wp2_with (fail)
 go_ret2
 obtain ⟨hf, hk⟩ := HH.out
 have kk : Kept [] w ((W.drewN nq).alloc (Obj.cells #[Ptr fb, I fs, I n] 132)) := (hk.drewN nq).alloc _
 have h3 := hf.lt
 have h4 := hf.row.lt
 have h5 := lt_of_block hf.cnt
 have h6 := hk.size
 refine ⟨_, rfl, h6, ⟨?_, hf.kept kk (by simp) (by simp) (by simp), HL.out.2, HL.out.1, by omega, by omega, by omega⟩, kk⟩
 exact heap_new (W.drewN nq) _
def St0 : St := ⟨0, [], [], []⟩
theorem st0_segs : St0.segs = [[]] := rfl
theorem inv0 {n : Nat} (hn : 1 ≤ n) : InvS n St0 where
 few := by simp [St0]; omega
 recs := by
  intro rs hrs
  rw [st0_segs, List.mem_singleton] at hrs
  subst hrs
  exact ⟨by simp [usedS], fun l hl => by cases hl⟩
 sorted := List.Pairwise.nil
 placed := fun k o h => by cases h
 rep := rfl
theorem cs0 {n : Nat} (hn : 1 ≤ n) (f : Fl) (h : f.cs = List.replicate (n + 1) 0) : CsOK n f 0 := by
 have hz : ∀ k, numAt f.cs k = 0 := fun k => by
  rw [h]; unfold numAt
  rw [List.getD_eq_getElem?_getD, List.getElem?_replicate]
  split <;> rfl
 refine ⟨fun k hk => ?_, hz 0, by rw [h, List.length_replicate]⟩
 rw [hz, Nat.div_eq_of_lt (by omega)]; rfl
theorem fl0 {n : Nat} (f : Fl) (hn : 1 ≤ n) (hl : 512 * (1 + n) ≤ f.bs.length) (hc : ∀ k, k < n → blockOf f.bs (1 + k) = fullB) : FlOK n (madeF f 1 0 1) St0 := by
 intro j hj
 rw [st0_segs]
 show blockOf _ (1 + (0 + j) % n) = _
 rw [Nat.zero_add, Nat.mod_eq_of_lt hj]
 cases j with
 | zero => exact seg_made f 1 0 1 (by omega) (hc 0 hj)
 | succ j =>
  show _ = fullB
  rw [seg_made_other f 1 0 1 _ (by omega) (by omega)]
  exact hc _ hj
theorem ct0 : CtOK St0 [] := by
 refine ⟨fun j rs hj => ?_, fun k hk => rfl⟩
 rw [st0_segs] at hj
 cases j with
 | zero => cases hj; rfl
 | succ j => cases hj
def SNew (w : World) (pb fb bb cb n : Nat) (f : Fl) (e : Ending) (w' : World) : Prop :=
 ∃ sb lb mb kb v, e = .returned (.tuple #[Ptr sb, I 0]) ∧ SAt w' sb lb pb fb bb cb mb kb n v St0 f ∧ w.heap.size ≤ sb ∧ w.heap.size ≤ lb ∧ w.heap.size ≤ mb ∧ w.heap.size ≤ kb ∧ (∀ q, v.ownBlock = some q → w.heap.size ≤ q) ∧ Kept [fb, bb, cb] w w'
theorem sformat_any (w : World) (pb fb bb cb n : Nat) (f : Fl) (h : PtAt w pb fb bb cb 1 n f) (hd : f.dead = false) (ha : f.armed = 0) (h8 : 8 ≤ n) (hc : ∀ k, k < n → blockOf f.bs (1 + k) = fullB) :
  Calls Tryz.prog 36 #[Ptr pb] w (SNew w pb fb bb cb n (madeF f 1 0 1)) := by
 have HS := Lib.hid (size_any w pb fb bb cb 1 n f h)
 have HL := Lib.hid (lformat_any w pb fb bb cb 1 n f h hd ha (by omega) hc)
 have hb := h.bound
 obtain ⟨N, hN⟩ : ∃ N : Nat, n * 512 = N := ⟨_, rfl⟩
 rw [hN] at HS
 have hNI : ¬ (N : Int) < 4096 := by omega
 have HH := Lib.hid (And.intro h (And.intro hd (And.intro ha (And.intro h8 hc))))
 clear h hd ha h8 hc hb hN
 go_enter Tryz.func36, Tryz.ntmps36
 go_wp2_with (fail)
 refine HS.out.mono ?_
 rintro e w1 ⟨rfl, rfl⟩
 go_wp2_with (fail)
 refine HL.out.mono ?_
 rintro e w2 ⟨lb, v, hlb, rfl, hlg, hv, k2⟩
 have H2 := Lib.hid (And.intro hlb (And.intro hlg (And.intro hv k2)))
 clear hlb hlg hv k2
 have m1 : (Instr.makeMap 137 none).run Tryz.prog w2 = .ok (.map (some w2.heap.size)) (w2.alloc (.map #[] 0)) := rfl
 have m2 : (Instr.makeMap 138 none).run Tryz.prog (w2.alloc (.map #[] 0)) = .ok (.map (some (w2.heap.size + 1))) ((w2.alloc (.map #[] 0)).alloc (.map #[] 0)) := by rw [← World.size_alloc]; rfl
 go_wp2_with (fail)
 go_ret2
 obtain ⟨hlb, hlg, hv, k2⟩ := H2.out
 obtain ⟨h, hd, ha, h8, hc⟩ := HH.out
 obtain ⟨W1, hW1⟩ : ∃ W1, w2.alloc (.map #[] 0) = W1 := ⟨_, rfl⟩
 have s1 : W1.heap.size = w2.heap.size + 1 := by rw [← hW1, World.size_alloc]
 have o1 : ObAt W1 w2.heap.size [] := by rw [← hW1]; exact amap_made w2
 have kA : Kept [] w2 W1 := by rw [← hW1]; exact (Kept.refl [] w2).alloc _
 obtain ⟨W2, hW2⟩ : ∃ W2, W1.alloc (.map #[] 0) = W2 := ⟨_, rfl⟩
 have s2 : W2.heap.size = w2.heap.size + 2 := by rw [← hW2, World.size_alloc, s1]
 have o2 : CtAt W2 (w2.heap.size + 1) [] := by rw [← hW2, ← s1]; exact amap_made W1
 have kB : Kept [] W1 W2 := by rw [← hW2]; exact (Kept.refl [] W1).alloc _
 obtain ⟨W3, hW3⟩ : ∃ W3, W2.alloc (.cells #[Ptr pb, Ptr lb, .map (some w2.heap.size), .map (some (w2.heap.size + 1)), I 0, .bool false] 140) = W3 := ⟨_, rfl⟩
 have hb3 : W3.heap[w2.heap.size + 2]? = some (.cells #[Ptr pb, Ptr lb, .map (some w2.heap.size), .map (some (w2.heap.size + 1)), I 0, .bool false] 140 (0, 0)) := by rw [← hW3, ← s2]; exact heap_new W2 _
 have kC : Kept [] W2 W3 := by rw [← hW3]; exact (Kept.refl [] W2).alloc _
 have k3 : Kept [] w2 W3 := (kA.trans' kB).trans' kC
 have l1 := hlg.lt
 have l2 := hlg.n1
 have l3 := hlg.n2
 have l4 := hlg.n3
 have l5 := hlg.n4
 have l6 := k2.size
 have l7 := h.bound
 rw [hW1, hW2, hW3]
 refine ⟨_, lb, w2.heap.size, w2.heap.size + 1, v, rfl, ⟨?_, ⟨[], ⟨hb3, o1.same (kB.trans' kC), o2.same kC, by omega, by omega, by omega⟩, ct0⟩, fl0 f (by omega) (by omega) hc, inv0 (by omega), ⟨hd, ha⟩, ?_⟩, by omega, hlb, by omega, by omega, hv, k2.trans' (k3.mono (by simp))⟩
 ·have e : sgs n St0.D St0.segs = [(0, 1)] := by
   show [(0 % n, 0 + 1)] = _
   rw [Nat.zero_mod]
  rw [e]
  exact hlg.same k3
 ·intro x hx
  have hown : ∀ q, v.ownBlock = some q → q < w2.heap.size := fun q hq => (own_lt hlg.own q hq).2
  have hxs : w2.heap.size ≤ x := by simp at hx; omega
  refine ⟨fun hm => ?_, by omega⟩
  simp only [LgT, List.mem_append, Option.mem_toList] at hm
  rcases hm with hm | hm
  ·simp at hm; omega
  ·have := hown x (by simpa using hm); omega
theorem old_val {M N : OM} (h : ∀ k, valM M k = valM N k) (c : Ch) : oldW M c = oldW N c := by
 have := congrArg (fun o : Option (List UInt8) => (o.map wF).getD 0) (h c.key)
 simp only [valM, Option.map_map, Function.comp_def] at this
 exact this
theorem becW_val {M N : OM} (h : ∀ k, valM M k = valM N k) : ∀ (l : List Ch) (x : Int), becW M l x = becW N l x
 | [], _ => rfl
 | c :: l, x => by
  show becW M l _ = becW N l _
  rw [old_val h c, becW_val h l]
theorem mayF_val {n : Nat} {M N : OM} (h1 : SortedA M) (h2 : SortedA N) (h : ∀ k, valM M k = valM N k) (l : List Ch) : mayF n M l = mayF n N l := by
 unfold mayF
 rw [becW_val h, weight_same h1 h2 h]
def putF (n : Nat) (V : OM) (l : List Ch) : OM := if mayF n V l = 0 then takesF V l 0 0 else V
theorem put_sorted {n : Nat} {V : OM} {l : List Ch} (h : SortedA V) : SortedA (putF n V l) := by
 unfold putF
 split
 ·exact takes_sorted _ _ _ h
 ·exact h
theorem may_form {n : Nat} {V : OM} {l : List Ch} (h : mayF n V l = 0) : formF l = 0 := by
 unfold mayF at h
 split at h
 ·exact h
 ·next hz => simpa using hz
section
variable {w : World} {sb lb pb fb bb cb mb kb n : Nat} {v : Value} {V : OM} {d : Nat}
theorem chs_lt {w : World} {cv : Value} {l : List Ch} (h : ChsAt w cv l) (hne : l ≠ []) : ∀ q, cv.ownBlock = some q → q < w.heap.size := by
 obtain ⟨p, c, b, o, rfl, hp, hc⟩ := h
 have e := hp hne
 subst e
 intro q hq
 have : q = b := by simpa [Value.ownBlock, eq_comm] using hq
 subst this
 exact World.block_lt_of_cell? w _ (hc 0 (List.length_pos_iff.2 hne)).1
theorem om_keys {n : Nat} {st : St} (h : InvS n st) : ∀ k ∈ st.M.map (·.1), 1 ≤ k ∧ k ≤ 2147483647 := by
 intro k hk
 rw [mem_find] at hk
 obtain ⟨o, ho⟩ := Option.isSome_iff_exists.1 hk
 obtain ⟨l, ⟨j, rs, a1, a2, a3⟩, hin⟩ := h.placed k o ho
 have := ((h.recs rs (List.mem_of_getElem? a1)).2 l (List.mem_of_getElem? a3)).2.1 _ hin
 exact ⟨this.1, this.2.1⟩
def getF (V : OM) (k : Int) : List UInt8 := (valM V k).getD []
end
def L1 : List Ch := [⟨5, zerosL 53, false⟩]
def L2 : List Ch := [⟨6, zerosL 54, false⟩, ⟨7, [], true⟩]
def V1 : OM := takesF [] L1 0 0
def V2 : OM := takesF V1 L2 0 0
theorem zeros_made (w : World) (n : Nat) (h : n ≤ 1000) : ∃ W, (Instr.makeSlice 64 (I n) (I n)).run Tryz.prog w = .ok (.slice (some ⟨w.heap.size, 0, none⟩) n n) W ∧ Kept [] w W ∧ W.heap.size = w.heap.size + 1 ∧ ∀ c W', Kept [] W W' → (convert 64 9 (.slice (some ⟨w.heap.size, 0, none⟩) n c)).run Tryz.prog W' = .ok (S (zerosL n)) W' := by
 refine ⟨_, make_bytes w n (by omega), (Kept.refl [] w).alloc _, by rw [World.size_alloc], fun c W' k => ?_⟩
 have hr : Row W' w.heap.size (zerosL n) := k.at (heap_new w (.cells (Lib.byteCells (zerosL n)).toArray 5)) (by simp)
 have := conv_row hr c
 rw [zerosL_len] at this
 exact this
structure CoreX (w : World) (sb mb : Nat) (x : Int) (M : OM) (dd : Bool) : Prop where
 c2 : w.cell? ⟨sb, 2, none⟩ = some (.map (some mb))
 c4 : w.cell? ⟨sb, 4, none⟩ = some (I x)
 c5 : w.cell? ⟨sb, 5, none⟩ = some (.bool dd)
 ob : ObAt w mb M
theorem CoreX.same {w w' : World} {sb mb : Nat} {x : Int} {M : OM} {dd : Bool} (h : CoreX w sb mb x M dd) (k : Kept [] w w') : CoreX w' sb mb x M dd := ⟨k.cellOf h.c2, k.cellOf h.c4, k.cellOf h.c5, h.ob.same k⟩
theorem CoreAt.toX {w : World} {sb pb lb mb kb : Nat} {x : Int} {M : OM} {C : List (Int × Nat)} (h : CoreAt w sb pb lb mb kb x M C) : CoreX w sb mb x M false := by
 obtain ⟨c0, c1, c2, c3, c4, c5⟩ := h.cells
 exact ⟨c2, c4, c5, h.ob⟩
theorem CoreX.find_some {w : World} {sb mb : Nat} {x : Int} {M : OM} {dd : Bool} (h : CoreX w sb mb x M dd) {k : Int} (hk : I64 k) {o : Ob} (ho : findA M k = some o) : (Instr.lookup 137 (.map (some mb)) (I k) true).run Tryz.prog w = .ok (.tuple #[.agg #[S o.val, I o.seg, I o.pos], .bool true]) w :=
 h.ob.look_some Tryz.underlying137 (ob_zero w) (obR_mk _) obR_inv hk ho
theorem CoreX.find_none {w : World} {sb mb : Nat} {x : Int} {M : OM} {dd : Bool} (h : CoreX w sb mb x M dd) {k : Int} (hk : I64 k) (ho : findA M k = none) : (Instr.lookup 137 (.map (some mb)) (I k) true).run Tryz.prog w = .ok (.tuple #[.agg #[S [], I 0, I 0], .bool false]) w :=
 h.ob.look_none Tryz.underlying137 (ob_zero w) (obR_mk _) (fun v ps hv => obR_inv v ⟨[], 0, 0⟩ ps hv) hk ho
theorem xget_any (w : World) (sb mb : Nat) (x : Int) (M : OM) (dd : Bool) (h : CoreX w sb mb x M dd) (k : Int) (hk : I64 k) :
  Calls Tryz.prog 78 #[Ptr sb, I k] w fun e w' => e = .returned (.tuple #[S (valF M k), .bool (findA M k).isSome]) ∧ Kept [] w w' := by
 obtain ⟨c2, c4, c5, _⟩ := id h
 obtain ⟨ov, os, op, is, hov, hlook⟩ : ∃ (ov : List UInt8) (os op : Nat) (is : Bool), (valF M k = ov ∧ (findA M k).isSome = is) ∧ (Instr.lookup 137 (.map (some mb)) (I k) true).run Tryz.prog w = .ok (.tuple #[.agg #[S ov, I os, I op], .bool is]) w := by
  unfold valF
  cases hfo : findA M k with
  | none => exact ⟨[], 0, 0, false, ⟨rfl, rfl⟩, h.find_none hk hfo⟩
  | some ob => exact ⟨ob.val, ob.seg, ob.pos, true, ⟨rfl, rfl⟩, h.find_some hk hfo⟩
 rw [hov.1, hov.2]
 have hnw := heap_new w (Obj.cells #[S [], I 0, I 0] 176)
 have hf2 := free_at hnw
 have z0 := cell_at hnw 0
 have z1 := cell_at hnw 1
 have z2 := cell_at hnw 2
 simp only [List.getElem?_toArray, List.getElem?_cons_zero, List.getElem?_cons_succ] at z0 z1 z2
 have HN := Lib.hid hnw
 clear h hk hov hnw c4 c5
 go_enter Tryz.func78, Tryz.ntmps78
 go_wp2_with (fail)
 have hst := store3 HN.out (S ov) (I os) (I op)
 have q0 := cell_at hst 0
 simp only [List.getElem?_toArray, List.getElem?_cons_zero, List.getElem?_cons_succ] at q0
 go_wp2_with (fail)
 go_ret2
 exact ⟨rfl, (Kept.refl [] w).alloc _⟩
theorem xweight_any (w : World) (sb mb : Nat) (x : Int) (M : OM) (dd : Bool) (h : CoreX w sb mb x M dd) :
  Calls Tryz.prog 71 #[Ptr sb] w fun e w' => e = .returned (I x) ∧ w' = w := by
 obtain ⟨c2, c4, c5, _⟩ := id h
 clear h
 go_enter Tryz.func71, Tryz.ntmps71
 go_wp2_with (fail)
 go_ret
 exact ⟨rfl, rfl⟩
def RD (w : World) (sb : Nat) (V : OM) : Prop := SortedA V ∧ ∃ mb M dd, CoreX w sb mb (sumA wO M) M dd ∧ SortedA M ∧ (∀ k, valM M k = valM V k) ∧ (∀ k ∈ M.map (·.1), 1 ≤ k ∧ k ≤ 2147483647) ∧ sumA wO M ≤ 2000 ∧ Vals256 M
theorem RD.same {w w' : World} {sb : Nat} {V : OM} (h : RD w sb V) (k : Kept [] w w') : RD w' sb V := by
 obtain ⟨h0, mb, M, dd, h1, h2⟩ := h
 exact ⟨h0, mb, M, dd, h1.same k, h2⟩
theorem RD.weight {w : World} {sb : Nat} {V : OM} (h : RD w sb V) : Calls Tryz.prog 71 #[Ptr sb] w fun e w' => e = .returned (I (sumA wO V : Nat)) ∧ w' = w := by
 obtain ⟨h0, mb, M, dd, h1, h2, h3, h4, h5, h6⟩ := h
 rw [← weight_same h2 h0 h3]
 exact xweight_any w sb mb _ M dd h1
theorem RD.get {w : World} {sb : Nat} {V : OM} (h : RD w sb V) (k : Int) (hk : I64 k) : Calls Tryz.prog 78 #[Ptr sb, I k] w fun e w' => e = .returned (.tuple #[S (getF V k), .bool (valM V k).isSome]) ∧ Kept [] w w' := by
 obtain ⟨h0, mb, M, dd, h1, h2, h3, h4, h5, h6⟩ := h
 have := xget_any w sb mb _ M dd h1 k hk
 rw [show valF M k = getF V k from by unfold valF getF; rw [← h3 k]; rfl, show (findA M k).isSome = (valM V k).isSome from by rw [← h3 k]; unfold valM; rw [Option.isSome_map]] at this
 exact this
theorem stold_gone (w : World) (sb pb lb mb kb : Nat) (x : Int) (M : OM) (C : List (Int × Nat)) (h : CoreAt w sb pb lb mb kb x M C) :
  Calls Tryz.prog 112 #[Ptr sb, I 2] w fun e w' => e = .returned (I 2) ∧ CoreX w' sb mb x M true ∧ Kept [sb] w w' := by
 obtain ⟨c0, c1, c2, c3, c4, c5⟩ := h.cells
 have hf := h.free
 have H := Lib.hid h
 clear h
 go_enter Tryz.func112, Tryz.ntmps112
 go_wp2_with (fail)
 go_ret
 have kk : Kept [sb] w (w.setCell ⟨sb, 5, none⟩ (.bool true)) := (Kept.refl _ _).setCell (.inl (by simp)) _
 have hb := heap_setCell_at H.out.blk 5 (.bool true)
 refine ⟨rfl, ⟨?_, ?_, ?_, H.out.ob.kept kk (by simpa using Ne.symm H.out.n1)⟩, kk⟩
 ·rw [cell_at hb]; rfl
 ·rw [cell_at hb]; rfl
 ·rw [cell_at hb]; rfl
end Go.Proofs.YteplbljjlbdhaaaGreatDoor
