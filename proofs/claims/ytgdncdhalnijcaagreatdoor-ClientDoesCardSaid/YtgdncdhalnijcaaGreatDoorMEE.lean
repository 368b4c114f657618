/- Walks and lemmas on the program of this seat, used by its statements; each theorem bears its own conditions. -/
import Derived.Test.YtgdncdhalnijcaaGreatDoorMED
import Derived.Test.YtgdncdhalnijcaaGreatDoorMRU
import Derived.Test.YtgdncdhalnijcaaGreatDoorMCX
import Derived.Handy
import Derived.Recover
import Derived.IntWalk
import Derived.Deep.CutRange
import Derived.OwnWalk
import Derived.Deep.AppendLies
import Derived.Deep.RegionLaw
import Derived.Deep.RegionHeld3
import Derived.StillTailTactics
import Derived.RegionTactic
import Derived.ChangeAlike
import Derived.Deep.WholeRow
namespace Go.Proofs.YtgdncdhalnijcaaGreatDoor
open Go.RowKit
set_option linter.unusedVariables false
set_option linter.unusedSimpArgs false
section
namespace CL
set_option maxHeartbeats 8000000
set_option maxRecDepth 100000
/-! ### Lost -/
theorem kind_state {kd sz : Int} {R0 r : BD.Rd} {s o : List UInt8} (hk : BD.KindOf kd sz R0) (h : BD.feeds R0 s = (r, o, 0)) : (kd = 3 → r.state = 1) ∧ (kd ≠ 3 → r.state ≠ 1) := by
  refine ⟨fun e => ?_, fun e => ?_⟩
  · rcases hk with ⟨q, _⟩ | ⟨q, _⟩ | ⟨q, _⟩ | ⟨_, _, rfl⟩
    · omega
    · omega
    · omega
    · have h2 := BD.feeds_open s BD.rdP rfl (by simp [BD.rdP, BD.rdNil]) (by simp [BD.rdP, BD.rdNil])
      rw [h] at h2
      split at h2
      · simp only [Prod.mk.injEq] at h2
        rw [h2.1]; rfl
      · simp at h2
  · have h1 : R0.state ≠ 1 := by
      rcases hk with ⟨q, _, rfl⟩ | ⟨q, _, rfl⟩ | ⟨q, _, _, rfl⟩ | ⟨q, _⟩
      · decide
      · decide
      · unfold BD.rdZ; simp only; split <;> decide
      · omega
    have := BD.feeds_ne1 s R0 h1
    rw [h] at this
    exact this
set_option maxHeartbeats 4000000 in
theorem rlost_any (b : Nat) (T : List Nat) (c : Cl) (y : Mx) (w : World) (H : MAt w b c y) (hRl : Rl w T c y) (hk : c.Ok) : Calls Tryz.prog 22 #[Ptr b] w (MPost (.tuple #[]) b w (lostF c) y) := by
  obtain ⟨c0, c1, c2, c3, c4, c5, c6, c7, c8, c9, c10, c11, c12, c13, c14, c15, c16, c17, c18, c19, c20, c21, c22, c23, c24, c25⟩ := (H).cells
  have hf := (H).free
  have HH := Lib.hid H
  have HKc := Lib.hid hk
  have HRl := Lib.hid hRl
  clear H hk hRl
  go_enter Tryz.func22, Tryz.ntmps22
  by_cases h1 : c.state = 1
  case neg =>
    have hb : (c.state != 1) = true := by simpa using h1
    have hY : Hid (lostF c = c) := Lib.hid (by unfold lostF; rw [if_neg h1])
    clear h1
    go_wp2_with (fail)
    exact bodyPost_end (v := .tuple #[]) (by simp [results, Tryz.results22, go_sem]) rfl (MPost.mk HH.out (Kept.refl _ _) hY.out.symm)
  have hb : (c.state != 1) = false := by simpa using h1
  cases hbd : c.body with
  | none =>
    have hY : Hid (lostF c = losesF c) := Lib.hid (by unfold lostF; rw [if_pos h1, hbd])
    have hkn := (HRl.out.no h1 hbd).1
    rw [hkn] at c18
    clear h1 hbd hkn
    go_wp2_with (fail)
    refine (rloses_any b c y _ HH.out HKc.out.bd).mono ?_
    rintro e w7 ⟨rfl, h7, k7⟩
    go_wp2_with (fail)
    exact bodyPost_end (v := .tuple #[]) (by simp [results, Tryz.results22, go_sem]) rfl (MPost.mk h7 k7 hY.out.symm)
  | some r =>
    obtain ⟨hkn, ⟨h, n, R0, o1, a1, a2, a3, a4, a5, a6, a7, a8, a9⟩, f1, f2⟩ := HRl.out.yes h1 r hbd
    obtain ⟨g1, g2, g3⟩ := HKc.out.rd h1 r hbd
    rw [hkn] at c18
    rw [a1] at c19
    have HKD := Lib.hid (fun W (k : Kept [] w W) => BD.kind_any BD.small_says h.st y.nv y.vv h.ns h.vs W (toBDS (a2.kept k)) (toBDS (a3.kept k)) (fun s hs => by have := a4 s hs; omega))
    obtain ⟨kd, sz, hkf, hkd⟩ : ∃ kd sz, BD.kindF h.st h.ns h.vs = (kd, sz, 0) ∧ BD.KindOf kd sz R0 := by
      rcases BD.kind_new h.st h.ns h.vs with ⟨k, q1, _, _⟩ | ⟨kd, sz, R, q1, q2, q3⟩
      · rw [a5] at q1; cases q1
      · rw [a5] at q1; cases q1; exact ⟨kd, sz, q2, q3⟩
    rw [hkf] at HKD
    obtain ⟨s1, s2⟩ := kind_state hkd a8
    by_cases h3 : kd = 3
    · have hcl : BD.closeF r = ({ r with state := 11 }, 0) := by unfold BD.closeF; rw [if_neg (by simp [g1, g2]), if_pos (s1 h3)]
      have hY : Hid (lostF c = endsF { c with body := some { r with state := 11 } }) := Lib.hid (by unfold lostF; rw [if_pos h1, hbd]; simp only; rw [hcl]; simp only; rw [if_pos trivial])
      have hb3 : (kd == 3) = true := by simpa using h3
      have HBD : Hid ({ c with body := some { r with state := 11 } } : Cl).Bd := Lib.hid (bd_body HKc.out.bd _)
      clear h1 hbd hkn a1 a2 a3 a4 a5 a6 a7 a8 a9 f1 f2 g1 g2 g3 hkf hkd s1 s2 h3 hcl
      go_wp2_with (fail)
      refine (HKD.out _ (Kept.refl _ _)).mono ?_
      rintro e w1 ⟨rfl, k1⟩
      have H1 := Lib.hid (And.intro (HH.out.kept (ofBD k1) (by simp)) ((ofBD k1).mono (by simp : ∀ x ∈ ([] : List Nat), x ∈ [b])))
      clear k1
      go_wp2_with (fail)
      refine (rends_any b { c with body := some { r with state := 11 } } y _ (H1.out.1.of rfl) HBD.out).mono ?_
      rintro e w7 ⟨rfl, h7, k7⟩
      go_wp2_with (fail)
      exact bodyPost_ret (v := .tuple #[]) (by simp [results, Tryz.results22, go_sem]) rfl (MPost.mk h7 (H1.out.2.trans' k7) hY.out.symm)
    · have hcl : BD.closeF r = ({ r with e := 182 }, 182) := by unfold BD.closeF; rw [if_neg (by simp [g1, g2]), if_neg (s2 h3)]
      have hY : Hid (lostF c = losesF { c with body := some { r with e := 182 } }) := Lib.hid (by unfold lostF; rw [if_pos h1, hbd]; simp only; rw [hcl]; simp only; rw [if_neg (by decide)])
      have hb3 : (kd == 3) = false := by simpa using h3
      have HBD : Hid ({ c with body := some { r with e := 182 } } : Cl).Bd := Lib.hid (bd_body HKc.out.bd _)
      clear h1 hbd hkn a1 a2 a3 a4 a5 a6 a7 a8 a9 f1 f2 g1 g2 g3 hkf hkd s1 s2 h3 hcl
      go_wp2_with (fail)
      refine (HKD.out _ (Kept.refl _ _)).mono ?_
      rintro e w1 ⟨rfl, k1⟩
      have H1 := Lib.hid (And.intro (HH.out.kept (ofBD k1) (by simp)) ((ofBD k1).mono (by simp : ∀ x ∈ ([] : List Nat), x ∈ [b])))
      clear k1
      go_wp2_with (fail)
      refine (rloses_any b { c with body := some { r with e := 182 } } y _ (H1.out.1.of rfl) HBD.out).mono ?_
      rintro e w7 ⟨rfl, h7, k7⟩
      go_wp2_with (fail)
      exact bodyPost_end (v := .tuple #[]) (by simp [results, Tryz.results22, go_sem]) rfl (MPost.mk h7 (H1.out.2.trans' k7) hY.out.symm)
/-! ### Clone of the program's client -/
theorem clone_world {V : World} {g bb : Nat} {c : Cl} {r : BD.Rd} (h : V.heap[g]? = some (c.obj bb)) (hbd : c.body = some r) (hr : V.heap[g + 1]? = some r.obj) : ClAt (V.setCell ⟨g, 18, none⟩ (Ptr (g + 1))) g (g + 1) c := by
  have h1 := heap_setCell_at h 18 (Ptr (g + 1))
  refine ⟨?_, fun r' hr' => ?_, fun _ => by omega⟩
  · rw [h1]
    unfold Cl.obj Cl.arr Cl.bv
    rw [hbd]
    rfl
  · rw [hbd] at hr'
    injection hr' with hr'
    subst hr'
    exact (set_other (by omega)).trans hr
/-- A whole struct stored into the block that was made last: however many its cells. -/
theorem wpList_store_new {P : Program} {ops : Array Oper} {rest : List Oper} {op : Oper} {a : Act} {W0 W2 : World} {Q : Exit → Act → World → Prop} (hgd : op.guard = none) (ty : TypeId) (x y : Operand) (ho : op.op = .store ty x y)
    (c0 cells : Array Value) (hx : a.eval x = .pointer (some ⟨W0.heap.size, 0, none⟩)) (hy : a.eval y = .agg cells) (hi : (P.info? ty).map (·.size) = some cells.size) (hs : c0.size = cells.size) (h1 : cells.all (·.oneCell') = true) (hW : W0.alloc (.cells cells ty) = W2)
    (h : wpList P ops Q rest (a.put op.dst undef) W2) : wpList P ops Q (op :: rest) a (W0.alloc (.cells c0 ty)) :=
  wpList_plain hgd fun _ hK => by
    unfold Oper.wp execOp
    simp only [ho, hx, hy, Instr.storeAt, Instr.sureAddr, Sem.run_bind, Sem.run_pure, Result.andThen_ok, run_storeVar_new W0 ty c0 cells hi hs h1, hW]
    exact hK _ _ h
set_option maxHeartbeats 4000000 in
theorem cclone_none (b bb : Nat) (c : Cl) (w : World) (H : ClAt w b bb c) (hbd : c.body = none) : Calls Tryz.prog 24 #[Ptr b] w fun e w' => ∃ b2 bb2, e = .returned (Ptr b2) ∧ w.heap.size ≤ b2 ∧ w.heap.size ≤ bb2 ∧ bb2 < w'.heap.size ∧ ClAt w' b2 bb2 c ∧ Kept [] w w' := by
  have hbv : c.bv bb = .pointer none := by unfold Cl.bv; rw [hbd]
  have hall : (c.arr (c.bv bb)).all (·.oneCell') = true := by rw [hbv]; unfold Cl.arr; simp [Value.oneCell']
  have hblk := H.blk
  obtain ⟨W, hW⟩ : ∃ W, w.alloc (c.obj bb) = W := ⟨_, rfl⟩
  have hWs : W.heap.size = w.heap.size + 1 := by rw [← hW, World.size_alloc]
  have hK : Kept [] w W := by rw [← hW]; exact (Kept.refl _ _).alloc _
  have hnew : W.heap[w.heap.size]? = some (c.obj bb) := by rw [← hW]; exact heap_new w (c.obj bb)
  have d18 := (H.kept hK (by simp) (by simp)).cells.2.2.2.2.2.2.2.2.2.2.2.2.2.2.2.2.2.2.1
  rw [hbv] at d18
  have hA : ClAt W w.heap.size w.heap.size c := by
    refine ⟨?_, fun r hr => ?_, fun e => ?_⟩
    · rw [hnew]
      unfold Cl.obj Cl.bv
      rw [hbd]
    · rw [hbd] at hr; cases hr
    · rw [hbd] at e; cases e
  have HA := Lib.hid (And.intro hA (And.intro hK hWs))
  have HD := Lib.hid d18
  unfold Cl.obj at hblk hW
  have hsz : (c.arr (c.bv bb)).size = 21 := rfl
  generalize c.arr (c.bv bb) = cs at hblk hW hall hsz
  clear hbv hK hnew hA H hbd hWs d18
  go_enter Tryz.func24, Tryz.ntmps24
  go_upto_region 1 with (fail)
  iterate 7 go_step
  refine wpList_load_row rfl 60 (.tmp 5) rfl b rfl _ cs (0, 0) _ hblk Tryz.underlying60 rfl (by rw [hsz]; kernel_rfl) ?_
  iterate 3 go_step
  refine wpList_store_new rfl 60 (.tmp 3) (.tmp 6) rfl _ cs rfl rfl (by rw [hsz]; kernel_rfl) (by rw [hsz]; rfl) hall hW ?_
  clear hall hsz hblk hW
  have d18 := HD.out
  go_wp2_with (fail)
  go_ret
  exact ⟨w.heap.size, w.heap.size, rfl, Nat.le_refl _, Nat.le_refl _, by rw [HA.out.2.2]; omega, HA.out.1, HA.out.2.1⟩
set_option maxHeartbeats 4000000 in
theorem cclone_some (b bb : Nat) (c : Cl) (w : World) (H : ClAt w b bb c) (r : BD.Rd) (hbd : c.body = some r) : Calls Tryz.prog 24 #[Ptr b] w fun e w' => ∃ b2 bb2, e = .returned (Ptr b2) ∧ w.heap.size ≤ b2 ∧ w.heap.size ≤ bb2 ∧ bb2 < w'.heap.size ∧ ClAt w' b2 bb2 c ∧ Kept [] w w' := by
  have hbv : c.bv bb = Ptr bb := by unfold Cl.bv; rw [hbd]
  have hall : (c.arr (c.bv bb)).all (·.oneCell') = true := by rw [hbv]; unfold Cl.arr; simp [Value.oneCell']
  have hblk := H.blk
  obtain ⟨W, hW⟩ : ∃ W, w.alloc (c.obj bb) = W := ⟨_, rfl⟩
  have hWs : W.heap.size = w.heap.size + 1 := by rw [← hW, World.size_alloc]
  have hK : Kept [] w W := by rw [← hW]; exact (Kept.refl _ _).alloc _
  have hnew : W.heap[w.heap.size]? = some (c.obj bb) := by rw [← hW]; exact heap_new w (c.obj bb)
  have d18 := (H.kept hK (by simp) (by simp)).cells.2.2.2.2.2.2.2.2.2.2.2.2.2.2.2.2.2.2.1
  rw [hbv] at d18
  have hlt : bb < w.heap.size := by have := H.rd r hbd; exact lt_of_block this
  have hrW : BD.RdAt W bb r := (toBD hK).at (H.rd r hbd) (by simp)
  have hcl := BD.clone_any bb r W hrW
  obtain ⟨V, hV⟩ : ∃ V, W.alloc r.obj = V := ⟨_, rfl⟩
  rw [hV] at hcl
  have hV1 : V.heap[w.heap.size]? = some (c.obj bb) := by rw [← hV]; exact ((Kept.refl [] _).alloc _).at hnew (by simp)
  have hV2 : V.heap[w.heap.size + 1]? = some r.obj := by
    have := heap_new W r.obj
    rw [hV, hWs] at this
    exact this
  have hVs : V.heap.size = w.heap.size + 2 := by rw [← hV, World.size_alloc, hWs]
  have hfin := clone_world hV1 hbd hV2
  have hfr : ∀ i, V.frozen? ⟨w.heap.size, i, none⟩ = false := free_at hV1
  have e18 : V.cell? ⟨w.heap.size, 18, none⟩ = some (Ptr bb) := by
    have e : V.cell? ⟨w.heap.size, 18, none⟩ = some (c.bv bb) := by rw [cell_at hV1]; rfl
    rw [e, hbv]
  have hKV : Kept [] w V := by rw [← hV]; exact hK.alloc _
  have HFR := Lib.hid (And.intro hfr e18)
  have HA := Lib.hid (And.intro hfin (And.intro hKV (And.intro hWs hVs)))
  have HCL := Lib.hid hcl
  clear hfr e18 hfin hcl hrW hlt hV hV1 hV2 hVs hKV
  have HD := Lib.hid d18
  unfold Cl.obj at hblk hW
  have hsz : (c.arr (c.bv bb)).size = 21 := rfl
  generalize c.arr (c.bv bb) = cs at hblk hW hall hsz
  clear hbv hK hnew H hbd hWs d18
  go_enter Tryz.func24, Tryz.ntmps24
  go_upto_region 1 with (fail)
  iterate 7 go_step
  refine wpList_load_row rfl 60 (.tmp 5) rfl b rfl _ cs (0, 0) _ hblk Tryz.underlying60 rfl (by rw [hsz]; kernel_rfl) ?_
  iterate 3 go_step
  refine wpList_store_new rfl 60 (.tmp 3) (.tmp 6) rfl _ cs rfl rfl (by rw [hsz]; kernel_rfl) (by rw [hsz]; rfl) hall hW ?_
  clear hall hsz hblk hW
  have d18 := HD.out
  obtain ⟨hfr, e18⟩ := HFR.out
  go_wp2_with (fail)
  refine HCL.out.mono ?_
  rintro e w2 ⟨rfl, rfl⟩
  rw [HA.out.2.2.1]
  go_wp2_with (fail)
  go_ret
  exact ⟨w.heap.size, w.heap.size + 1, rfl, Nat.le_refl _, Nat.le_succ _, by simp only [World.setCell, Array.size_modify]; rw [HA.out.2.2.2]; omega, HA.out.1, HA.out.2.1.setCell (.inr (Nat.le_refl _)) _⟩
theorem cclone_any (b bb : Nat) (c : Cl) (w : World) (H : ClAt w b bb c) : Calls Tryz.prog 24 #[Ptr b] w fun e w' => ∃ b2 bb2, e = .returned (Ptr b2) ∧ w.heap.size ≤ b2 ∧ w.heap.size ≤ bb2 ∧ bb2 < w'.heap.size ∧ ClAt w' b2 bb2 c ∧ Kept [] w w' := by
  cases hbd : c.body with
  | none => exact cclone_none b bb c w H hbd
  | some r => exact cclone_some b bb c w H r hbd
end CL
end
section
namespace CL
set_option maxHeartbeats 8000000
set_option maxRecDepth 100000
/-! ### ClientDoes -/
theorem At0.keptU {w0 w w' : World} {b bb : Nat} {c : Cl} {U : List Nat} (A : At0 w0 w b bb c) (hT : CT w0) (k : Kept U w w') (h1 : b ∉ U) (h2 : bb ∉ U) (h3 : ∀ x ∈ U, w0.heap.size ≤ x) : At0 w0 w' b bb c := by
  have kp := A.kp.new k h3
  exact ⟨A.cl.kept k h1 h2, A.ok, ⟨w0, hT.tb, hT.pt, hT.ml, kp, A.h1, A.h2, by have := A.li.lt; have := k.size; omega⟩, kp, A.h1, A.h2⟩
structure DoAt (w0 w : World) (mb b bb : Nat) (c : Cl) (y : Mx) (a : Nat) : Prop where
  A : At0 w0 w b bb c
  M : MAt w mb c y
  R : Rl w [mb, b, bb] c y
  n1 : b ≠ mb
  n2 : bb ≠ mb
  hm : w0.heap.size ≤ mb
  ra : y.raw.length ≤ a
section
variable {w0 w w' : World} {mb b bb : Nat} {c : Cl} {y : Mx} {a : Nat}
theorem DoAt.same (D : DoAt w0 w mb b bb c y a) (k : Kept [] w w') : DoAt w0 w' mb b bb c y a :=
  ⟨D.A.same k, D.M.kept k (by simp), D.R.kept k (by simp), D.n1, D.n2, D.hm, D.ra⟩
theorem DoAt.more (D : DoAt w0 w mb b bb c y a) {a' : Nat} (h : a ≤ a') : DoAt w0 w mb b bb c y a' :=
  ⟨D.A, D.M, D.R, D.n1, D.n2, D.hm, Nat.le_trans D.ra h⟩
theorem DoAt.mnot (D : DoAt w0 w mb b bb c y a) : mb ∉ [b, bb] := by
  simp only [List.mem_cons, List.not_mem_nil, or_false, not_or]
  exact ⟨fun e => D.n1 e.symm, fun e => D.n2 e.symm⟩
theorem DoAt.new (D : DoAt w0 w mb b bb c y a) : ∀ x ∈ [b, bb], w0.heap.size ≤ x := by
  intro x hx
  simp only [List.mem_cons, List.not_mem_nil, or_false] at hx
  rcases hx with rfl | rfl
  · exact D.A.h1
  · exact D.A.h2
end
theorem tick_held (c : Cl) (n : Int) (h : (tickF c n).state = 1) : c.state = 1 ∧ (tickF c n).body = c.body ∧ (tickF c n).head = c.head := by
  unfold tickF at h ⊢
  split at h
  · rename_i hn; rw [if_pos hn]; exact ⟨h, rfl, rfl⟩
  · rename_i hn
    rw [if_neg hn]
    unfold tick2 at h ⊢
    split at h
    · simp at h
    split at h
    · exact absurd h (loses_ne1 _)
    · rename_i h1 h2
      rw [if_neg h1, if_neg h2]
      exact ⟨h, rfl, rfl⟩
theorem lost_ne1 (c : Cl) : (lostF c).state ≠ 1 := by
  unfold lostF
  split
  · split
    · exact loses_ne1 _
    · split
      · exact ends_ne1 _
      · exact loses_ne1 _
  · assumption
theorem out_cases (c : Cl) : (c.state = 0 ∧ (outF c).1.state = 1 ∧ (outF c).1.body = none ∧ (outF c).1.head = [] ∧ ∀ y : Mx, outX c y = { y with raw := [], known := false, seen := 0 }) ∨ (c.state ≠ 0 ∧ (outF c).1 = c ∧ ∀ y : Mx, outX c y = y) := by
  by_cases h : c.state = 0
  · refine .inl ⟨h, ?_⟩
    unfold outF outX
    rw [if_pos h]
    refine ⟨rfl, rfl, rfl, fun y => by rw [if_pos h]⟩
  · refine .inr ⟨h, ?_⟩
    unfold outF outX
    rw [if_neg h]
    exact ⟨rfl, fun y => by rw [if_neg h]⟩
theorem do_out {w0 w : World} {mb b bb : Nat} {c : Cl} {y : Mx} {a : Nat} (hT : CT w0) (D : DoAt w0 w mb b bb c y a) :
    Calls Tryz.prog 16 #[Ptr b] w fun e w1 => e = .returned (S (outF c).2) ∧ Calls Tryz.prog 20 #[Ptr mb] w1 fun e w2 => e = .returned (S (outF c).2) ∧ ∃ b2 bb2 c2 y2, b2 = b ∧ DoAt w0 w2 mb b2 bb2 c2 y2 a :=
  (out_any b bb c w D.A.cl D.A.ok.bd D.A.li.pt ⟨D.A.ok.ho, D.A.ok.ta⟩).mono fun e w1 h => by
    have A1 := D.A.go h.2.2 h.2.1 (.inl rfl) (by have := D.A.li.lt; have := h.2.2.size; omega) D.A.ok.out
    refine ⟨h.1, (rout_any mb c y w1 (D.M.kept h.2.2 D.mnot) D.A.ok.bd ⟨D.A.ok.ho, D.A.ok.ta⟩).mono fun e w2 g => ⟨g.1, b, bb, (outF c).1, outX c y, rfl, A1.keptU hT g.2.2 (by simp; exact D.n1) (by simp; exact D.n2) (by simp; exact D.hm), g.2.1, ?_, D.n1, D.n2, D.hm, ?_⟩⟩
    · rcases out_cases c with ⟨q0, q1, q2, q3, q4⟩ | ⟨q0, q1, q2⟩
      · rw [q4]
        exact ⟨fun _ _ => ⟨rfl, q3.symm, rfl⟩, fun _ r hr => by rw [q2] at hr; cases hr⟩
      · rw [q1, q2]
        exact (D.R.kept h.2.2 (by simp)).kept g.2.2 (by simp)
    · rcases out_cases c with ⟨q0, q1, q2, q3, q4⟩ | ⟨q0, q1, q2⟩
      · rw [q4]; exact Nat.zero_le _
      · rw [q2]; exact D.ra
theorem do_in {w0 w : World} {mb b bb : Nat} {c : Cl} {y : Mx} {a : Nat} (hT : CT w0) (D : DoAt w0 w mb b bb c y a) (s : List UInt8) (hs : a + s.length ≤ 20000) :
    Calls Tryz.prog 17 #[Ptr b, S s] w fun e w1 => e = .returned (S (inF c s).2) ∧ Kept [b, bb] w w1 ∧ Calls Tryz.prog 21 #[Ptr mb, S s] w1 fun e w2 => e = .returned (S (inF c s).2) ∧ ∃ b2 bb2 c2 y2, b2 = b ∧ DoAt w0 w2 mb b2 bb2 c2 y2 (a + s.length) :=
  (in_any b bb c s w D.A.cl D.A.ok D.A.li (by omega) _ rfl).mono fun e w1 h => by
    obtain ⟨h1, b2, hb, hl, hc, k⟩ := h
    have A1 := D.A.go k hc hb hl (D.A.ok.inn s)
    have hn2 : b2 ≠ mb := by
      rcases hb with e | e
      · rw [e]; exact D.n2
      · have := D.M.lt; omega
    have hbl := D.A.cl.lt
    have hbbl := D.A.li.lt
    have hml := D.M.lt
    have hsz := k.size
    have R1 : Rl w1 [mb, b, bb, b2] c y := (D.R.next (T' := [mb, b, bb, b2]) (by
      intro x hx
      simp only [List.mem_cons, List.not_mem_nil, or_false] at hx ⊢
      rcases hx with rfl | rfl | rfl | rfl
      · simp
      · simp
      · simp
      · rcases hb with e | e
        · left; simp [e]
        · right; exact e)).kept k (by simp)
    refine ⟨h1, k, (rin_any mb [mb, b, bb, b2] c y s w1 (D.M.kept k D.mnot) R1 D.A.ok (by
      intro t ht
      simp only [List.mem_cons, List.not_mem_nil, or_false] at ht
      rcases ht with rfl | rfl | rfl | rfl <;> omega) (by simp) (by have := D.ra; omega) _ rfl).mono fun e w2 g => ?_⟩
    obtain ⟨g1, y', M', K', R', hlen⟩ := g
    refine ⟨g1, b, b2, (inF c s).1, y', rfl, A1.keptU hT K' (by simp; exact D.n1) (by simp; exact hn2) (by simp; exact D.hm), M', R'.next (by
      intro x hx
      simp only [List.mem_cons, List.not_mem_nil, or_false] at hx ⊢
      rcases hx with rfl | rfl | rfl <;> simp), D.n1, hn2, D.hm, by have := D.ra; omega⟩
theorem do_lost {w0 w : World} {mb b bb : Nat} {c : Cl} {y : Mx} {a : Nat} (hT : CT w0) (D : DoAt w0 w mb b bb c y a) :
    Calls Tryz.prog 18 #[Ptr b] w fun e w1 => e = .returned (.tuple #[]) ∧ Calls Tryz.prog 22 #[Ptr mb] w1 fun e w2 => e = .returned (.tuple #[]) ∧ ∃ b2 bb2 c2 y2, b2 = b ∧ DoAt w0 w2 mb b2 bb2 c2 y2 a :=
  (lost_any b bb c w D.A.cl D.A.ok).mono fun e w1 h => by
    have A1 := D.A.go h.2.2 h.2.1 (.inl rfl) (by have := D.A.li.lt; have := h.2.2.size; omega) D.A.ok.lost
    exact ⟨h.1, (rlost_any mb [mb, b, bb] c y w1 (D.M.kept h.2.2 D.mnot) (D.R.kept h.2.2 (by simp)) D.A.ok).mono fun e w2 g => ⟨g.1, b, bb, lostF c, y, rfl, A1.keptU hT g.2.2 (by simp; exact D.n1) (by simp; exact D.n2) (by simp; exact D.hm), g.2.1, Rl.off (lost_ne1 c), D.n1, D.n2, D.hm, D.ra⟩⟩
theorem do_tick {w0 w : World} {mb b bb : Nat} {c : Cl} {y : Mx} {a : Nat} (hT : CT w0) (D : DoAt w0 w mb b bb c y a) (n : Int) (hn : n ≤ 9223372036854775807) :
    Calls Tryz.prog 13 #[Ptr b, I n] w fun e w1 => e = .returned (.tuple #[]) ∧ Kept [b, bb] w w1 ∧ Calls Tryz.prog 23 #[Ptr mb, I n] w1 fun e w2 => e = .returned (.tuple #[]) ∧ ∃ b2 bb2 c2 y2, b2 = b ∧ DoAt w0 w2 mb b2 bb2 c2 y2 a :=
  (tick_any b bb c n w D.A.cl D.A.ok.bd hn).mono fun e w1 h => by
    have A1 := D.A.go h.2.2 h.2.1 (.inl rfl) (by have := D.A.li.lt; have := h.2.2.size; omega) (D.A.ok.tick n)
    refine ⟨h.1, h.2.2, (rtick_any mb c y n w1 (D.M.kept h.2.2 D.mnot) D.A.ok.bd hn).mono fun e w2 g => ⟨g.1, b, bb, tickF c n, y, rfl, A1.keptU hT g.2.2 (by simp; exact D.n1) (by simp; exact D.n2) (by simp; exact D.hm), g.2.1, ?_, D.n1, D.n2, D.hm, D.ra⟩⟩
    have R2 := (D.R.kept h.2.2 (by simp)).kept g.2.2 (by simp)
    refine ⟨fun e1 e2 => ?_, fun e1 r e2 => ?_⟩
    · obtain ⟨q1, q2, q3⟩ := tick_held c n e1
      rw [q2] at e2
      rw [q3]
      exact R2.no q1 e2
    · obtain ⟨q1, q2, q3⟩ := tick_held c n e1
      rw [q2] at e2
      exact R2.yes q1 r e2
def r400 : List UInt8 := [72, 84, 84, 80, 47, 49, 46, 49, 32, 52, 48, 48, 32, 13, 10, 13, 10]
theorem do_clone {w0 w : World} {mb b bb : Nat} {c : Cl} {y : Mx} {a : Nat} (hT : CT w0) (D : DoAt w0 w mb b bb c y a) :
    Calls Tryz.prog 24 #[Ptr b] w fun e w1 => ∃ b2, e = .returned (Ptr b2) ∧ Calls Tryz.prog 17 #[Ptr b, S r400] w1 fun e w2 => e = .returned (S (inF c r400).2) ∧ Calls Tryz.prog 18 #[Ptr b] w2 fun e w3 => e = .returned (.tuple #[]) ∧ Calls Tryz.prog 13 #[Ptr b, I 1000] w3 fun e w4 => e = .returned (.tuple #[]) ∧ ∃ bb2 c2 y2, DoAt w0 w4 mb b2 bb2 c2 y2 a :=
  (cclone_any b bb c w D.A.cl).mono fun e w1 h => by
    obtain ⟨b2, bb2, h1, h2, h3, h4, h5, k1⟩ := h
    have D1 := D.same k1
    have hbl := D.A.cl.lt
    have hbbl := D.A.li.lt
    have hml := D.M.lt
    have hb2l := h5.lt
    refine ⟨b2, h1, (in_any b bb c r400 w1 D1.A.cl D1.A.ok D1.A.li (by decide) _ rfl).mono fun e w2 g => ?_⟩
    obtain ⟨g1, b3, hb, hl, hc, k2⟩ := g
    have A2 := D1.A.go k2 hc hb hl (D.A.ok.inn r400)
    refine ⟨g1, (lost_any b b3 _ w2 A2.cl A2.ok).mono fun e w3 g => ?_⟩
    have A3 := A2.go g.2.2 g.2.1 (.inl rfl) (by have := g.2.2.size; omega) A2.ok.lost
    have k3 := Kept.to2 k2 hb g.2.2
    refine ⟨g.1, (tick_any b b3 _ 1000 w3 A3.cl A3.ok.bd (by omega)).mono fun e w4 q => ?_⟩
    have k4 := Kept.to2 k3 hb q.2.2
    have kk : Kept [b, bb] w w4 := (k1.mono (by simp)).trans' k4
    have nA : At0 w0 w1 b2 bb2 c := ⟨h5, D.A.ok, ⟨w0, hT.tb, hT.pt, hT.ml, D.A.kp.trans' k1, by have := D.A.kp.size; omega, by have := D.A.kp.size; omega, h4⟩, D.A.kp.trans' k1, by have := D.A.kp.size; omega, by have := D.A.kp.size; omega⟩
    refine ⟨q.1, bb2, c, y, nA.keptU hT k4 (by simp; omega) (by simp; omega) D.new, D1.M.kept k4 D.mnot, ?_, by omega, by omega, D.hm, D.ra⟩
    have R1 := D.R.next (T' := [mb, b, bb, b2, bb2]) (by
      intro x hx
      simp only [List.mem_cons, List.not_mem_nil, or_false] at hx ⊢
      rcases hx with rfl | rfl | rfl | rfl | rfl
      · simp
      · simp
      · simp
      · right; exact h2
      · right; exact h3)
    exact (R1.kept kk (by simp)).next (by
      intro x hx
      simp only [List.mem_cons, List.not_mem_nil, or_false] at hx ⊢
      rcases hx with rfl | rfl | rfl <;> simp)
set_option maxRecDepth 100000 in
set_option maxHeartbeats 40000000 in
theorem does_any (ho ta : List UInt8) (fr li tm tr wt : Int) (v : Value) (os : List Op1) (w : World) (hT : CT w) (hv : OpsAt w v os) (hs : ∀ o ∈ os, o.s.length ≤ 9223372036854775807 ∧ o.n ≤ 9223372036854775807)
    (h1 : ho.length ≤ 9223372036854775807) (h2 : ta.length ≤ 9223372036854775807) (hf1 : -9223372036854775808 ≤ fr) (hf2 : fr ≤ 9223372036854775807) :
    Calls Tryz.prog 7 #[.agg (FeV ho ta fr li tm tr wt), v] w (LawT w) := by
  obtain ⟨p, cap, rfl, hl1, hl2, hcell⟩ := hv
  have HN := Lib.hid (fun W (k : Kept [] w W) => new_any ho ta fr li tm tr wt W (hT.pt.kept k) h1 h2 hf1 hf2)
  have HNR := Lib.hid (fun W => rnew_any ho ta fr li tm tr wt W h1 h2 hf1 hf2)
  have hA : Kept [] w (w.alloc (.cells (FeV ho ta fr li tm tr wt) FeT)) := (Kept.refl _ _).alloc _
  have HT := Lib.hid (hT.kept hA)
  have HA := Lib.hid hA
  have hfe := fe_new w ho ta fr li tm tr wt
  obtain ⟨z0, z1, z2, z3, z4, z5, z6⟩ := hfe.all
  have HF := Lib.hid hfe
  have HC := Lib.hid (And.intro hcell hs)
  unfold maxLen at hl2
  have hll : (os.length : Int) ≤ 9223372036854775807 := by omega
  clear hT hA h1 h2 hf1 hf2 hfe hcell hs
  go_enter Tryz.func7, Tryz.ntmps7
  go_wp2_with (fail)
  refine (HN.out _ HA.out).mono ?_
  clear z0 z1 z2 z3 z4 z5 z6
  rintro e w1 (⟨hok, b, hb, rfl, hc, k1⟩ | ⟨hno, rfl, k1⟩)
  case inr =>
    have K1 := Lib.hid k1
    obtain ⟨z0, z1, z2, z3, z4, z5, z6⟩ := FeAt.all (HF.out.kept k1)
    clear k1
    have HNO := Lib.hid hno
    clear hno
    go_wp2_with (fail)
    refine (HNR.out _).mono ?_
    rintro e w2 (⟨hok, _⟩ | ⟨_, rfl, k2⟩)
    · exact absurd hok (by rw [HNO.out]; decide)
    have K2 := Lib.hid (K1.out.trans' k2)
    clear k2 z0 z1 z2 z3 z4 z5 z6
    go_wp2_with (fail)
    go_loopw [5, 9, 10] (fun v5 v9 v10 wr => v5 = .pointer none ∧ v9 = I 0 ∧ v10 = I 0 ∧ wr = w2) (fun _ _ _ _ => 0)
    case atStart => exact ⟨rfl, rfl, rfl, rfl⟩
    case round =>
      obtain ⟨rfl, rfl, rfl, rfl⟩ := hrel
      go_wp2_with (fail)
      refine (cfixed_any _ (HT.out.kept K2.out)).mono ?_
      rintro e w3 ⟨rfl, k3⟩
      go_wp2_with (fail)
      go_ret
      exact ⟨rfl, (HA.out.trans' K2.out).trans' k3⟩
  have K1 := Lib.hid k1
  obtain ⟨z0, z1, z2, z3, z4, z5, z6⟩ := FeAt.all (HF.out.kept k1)
  have A := At0.new HT.out (Kept.refl [] _) hb hc (newOk_ok hok).1 k1
  have H0 := Lib.hid A
  have HOK := Lib.hid hok
  have hwl := A.kp.size
  have hblt := A.cl.lt
  clear A hc k1 hb hok HN
  go_wp2_with (fail)
  refine (HNR.out _).mono ?_
  rintro e w2 (⟨_, mb, hmb, rfl, hm, k2⟩ | ⟨hno, _⟩)
  case inr => exact absurd hno (by rw [HOK.out]; decide)
  have hD : DoAt (w.alloc (.cells (FeV ho ta fr li tm tr wt) FeT)) w2 mb b b (newCl ho ta fr li tm tr wt) y0 0 := ⟨H0.out.same k2, hm, Rl.off (by simp [newCl]), by omega, by omega, by omega, Nat.le_refl _⟩
  have HD := Lib.hid hD
  clear hD hm k2 hmb z0 z1 z2 z3 z4 z5 z6 H0 HNR hwl hblt
  go_wp2_with (fail)
  go_loopw [5, 9, 10] (fun v5 v9 v10 wr => ∃ (k a b bb : Nat) (c : Cl) (y : Mx), v5 = Ptr b ∧ v9 = I a ∧ v10 = I k ∧ k ≤ os.length ∧ k ≤ 100 ∧ a ≤ 20000 ∧ DoAt (w.alloc (.cells (FeV ho ta fr li tm tr wt) FeT)) wr mb b bb c y a) (fun _ _ i _ => 100 - (intOf i).toNat)
  case atStart => exact ⟨0, 0, b, b, _, _, rfl, rfl, rfl, by omega, by omega, by omega, HD.out⟩
  case round =>
    obtain ⟨k, a, b, bb, c, y, rfl, rfl, rfl, hk1, hk2, ha, D⟩ := hrel
    have HDD := Lib.hid D
    clear D
    by_cases hlt : k < os.length ∧ k < 100
    · obtain ⟨hlt1, hlt2⟩ := hlt
      have hlt1' : (k : Int) < os.length := by omega
      have hlt2' : (k : Int) < 100 := by omega
      obtain ⟨o, ho'⟩ : ∃ o, os[k] = o := ⟨_, rfl⟩
      obtain ⟨pb, off, rfl, hcc⟩ := HC.out.1 (by intro e; rw [e] at hlt1; simp at hlt1)
      have hec := hcc k hlt1
      rw [ho'] at hec
      have hos := HC.out.2 o (by rw [← ho']; exact List.getElem_mem _)
      obtain ⟨hos1, hos2⟩ := hos
      obtain ⟨e0, e1, e2⟩ := hec
      have kk := HA.out.trans' HDD.out.A.kp
      replace e0 := Kept.cellOf kk e0
      replace e1 := Kept.cellOf kk e1
      replace e2 := Kept.cellOf kk e2
      have hpw := World.block_lt_of_cell? wr _ e0
      have hol : (o.s.length : Int) ≤ 9223372036854775807 := by omega
      have haI : (a : Int) ≤ 20000 := by omega
      have hbx := heap_new wr (.cells #[I o.ki, I o.n, S o.s] 42)
      have hbk : Kept [] wr (wr.alloc (.cells #[I o.ki, I o.n, S o.s] 42)) := (Kept.refl _ _).alloc _
      obtain ⟨g, hg⟩ : ∃ g, wr.heap.size = g := ⟨_, rfl⟩
      obtain ⟨W, hW⟩ : ∃ W, wr.alloc (.cells #[I o.ki, I o.n, S o.s] 42) = W := ⟨_, rfl⟩
      rw [hW] at hbx hbk
      rw [hg] at hbx
      obtain ⟨f0, f1, f2⟩ := cells3 hbx
      have HDW := Lib.hid (HDD.out.same hbk)
      have hgb : b < g ∧ bb < g := by rw [← hg]; exact ⟨HDD.out.A.cl.lt, HDD.out.A.li.lt⟩
      have HGB := Lib.hid hgb
      have HK0 := Lib.hid (HA.out.trans' (HDW.out.A.kp))
      have HBX := Lib.hid hbx
      clear hcc ho' kk hbx hbk hgb HDD
      by_cases hbig : 20000 - (a : Int) < o.s.length
      · go_wp2_with (fail)
        refine (cfixed_any _ (HT.out.kept HDW.out.A.kp)).mono ?_
        rintro e w3 ⟨rfl, k3⟩
        go_wp2_with (fail)
        go_ret
        exact ⟨rfl, HK0.out.trans' k3⟩
      have hbigf : decide (20000 - (a : Int) < o.s.length) = false := decide_eq_false hbig
      have hsum : a + o.s.length ≤ 20000 := by omega
      obtain ⟨a2, ha2⟩ : ∃ a2 : Nat, a + o.s.length = a2 := ⟨_, rfl⟩
      have ha2I : (a : Int) + o.s.length = a2 := by omega
      go_upto_region 12 with (fail)
      (try rw [hW])
      clear e0 e1 e2 hpw hW hbig hbigf
      iterate 11 go_step
      go_cut [5, 12, 13, 14] from 70 to 114 (fun v5 v12 v13 v14 wx => ∃ (x : List UInt8) (b2 bb2 : Nat) (cc : Cl) (yy : Mx), v5 = Ptr b2 ∧ v12 = S x ∧ v13 = S x ∧ DoAt (w.alloc (.cells (FeV ho ta fr li tm tr wt) FeT)) wx mb b2 bb2 cc yy a2)
      case first =>
        by_cases q0 : o.ki = 0
        · rw [q0] at f0
          clear q0
          go_wp2_with (fail)
          refine (do_out HT.out HDW.out).mono ?_
          rintro r w3 ⟨rfl, hm3⟩
          have HM3 := Lib.hid hm3
          clear hm3
          go_wp2_with (fail)
          refine HM3.out.mono ?_
          rintro r w4 ⟨rfl, b2, bb2, c2, y2, rfl, D2⟩
          have HD2 := Lib.hid (D2.more (a' := a2) (by omega))
          clear D2
          go_wp2_with (fail)
          go_meet
          exact ⟨_, b2, bb2, c2, y2, rfl, rfl, rfl, HD2.out⟩
        have p0 : (o.ki == 0) = false := by simpa using q0
        by_cases q1 : o.ki = 1
        · rw [q1] at f0 p0
          clear q0 q1
          go_wp2_with (fail)
          refine (do_in HT.out HDW.out o.s hsum).mono ?_
          rintro r w3 ⟨rfl, k3, hm3⟩
          have HM3 := Lib.hid hm3
          have d2 : w3.cell? ⟨g, 2, none⟩ = some (S o.s) := by
            rw [k3.cell (World.block_lt_of_cell? W _ f2) (by simp; have := HGB.out; omega)]; exact f2
          clear hm3 k3
          go_wp2_with (fail)
          refine HM3.out.mono ?_
          rintro r w4 ⟨rfl, b2, bb2, c2, y2, rfl, D2⟩
          have HD2 := Lib.hid (D2.more (a' := a2) (by omega))
          clear D2
          go_wp2_with (fail)
          go_meet
          exact ⟨_, b2, bb2, c2, y2, rfl, rfl, rfl, HD2.out⟩
        have p1 : (o.ki == 1) = false := by simpa using q1
        by_cases q2 : o.ki = 2
        · rw [q2] at f0 p0 p1
          clear q0 q1 q2
          go_wp2_with (fail)
          refine (do_lost HT.out HDW.out).mono ?_
          rintro r w3 ⟨rfl, hm3⟩
          have HM3 := Lib.hid hm3
          clear hm3
          go_wp2_with (fail)
          refine HM3.out.mono ?_
          rintro r w4 ⟨rfl, b2, bb2, c2, y2, rfl, D2⟩
          have HD2 := Lib.hid (D2.more (a' := a2) (by omega))
          clear D2
          go_wp2_with (fail)
          go_meet
          exact ⟨[], b2, bb2, c2, y2, rfl, rfl, rfl, HD2.out⟩
        have p2 : (o.ki == 2) = false := by simpa using q2
        by_cases q3 : o.ki = 3
        · rw [q3] at f0 p0 p1 p2
          clear q0 q1 q2 q3
          go_wp2_with (fail)
          refine (do_tick HT.out HDW.out o.n hos2).mono ?_
          rintro r w3 ⟨rfl, k3, hm3⟩
          have HM3 := Lib.hid hm3
          have d1 : w3.cell? ⟨g, 1, none⟩ = some (I o.n) := by
            rw [k3.cell (World.block_lt_of_cell? W _ f1) (by simp; have := HGB.out; omega)]; exact f1
          clear hm3 k3
          go_wp2_with (fail)
          refine HM3.out.mono ?_
          rintro r w4 ⟨rfl, b2, bb2, c2, y2, rfl, D2⟩
          have HD2 := Lib.hid (D2.more (a' := a2) (by omega))
          clear D2
          go_wp2_with (fail)
          go_meet
          exact ⟨[], b2, bb2, c2, y2, rfl, rfl, rfl, HD2.out⟩
        have p3 : (o.ki == 3) = false := by simpa using q3
        by_cases q4 : o.ki = 4
        · rw [q4] at f0 p0 p1 p2 p3
          clear q0 q1 q2 q3 q4
          go_wp2_with (fail)
          refine (do_clone HT.out HDW.out).mono ?_
          rintro r w3 ⟨b2, rfl, hm3⟩
          have HM3 := Lib.hid hm3
          clear hm3
          go_wp2_with (fail)
          refine HM3.out.mono ?_
          rintro r w4 ⟨rfl, hm4⟩
          have HM4 := Lib.hid hm4
          clear hm4
          go_wp2_with (fail)
          refine HM4.out.mono ?_
          rintro r w5 ⟨rfl, hm5⟩
          have HM5 := Lib.hid hm5
          clear hm5
          go_wp2_with (fail)
          refine HM5.out.mono ?_
          rintro r w6 ⟨rfl, bb2, c2, y2, D2⟩
          have HD2 := Lib.hid (D2.more (a' := a2) (by omega))
          clear D2
          go_wp2_with (fail)
          go_meet
          exact ⟨[], b2, bb2, c2, y2, rfl, rfl, rfl, HD2.out⟩
        have p4 : (o.ki == 4) = false := by simpa using q4
        clear q0 q1 q2 q3 q4
        go_wp2_with (fail)
        go_meet
        exact ⟨[], b, bb, c, y, rfl, rfl, rfl, HDW.out.more (by omega)⟩
      case rest =>
        obtain ⟨x, b2, bb2, cc, yy, rfl, rfl, rfl, D2⟩ := hcut
        have HD2 := Lib.hid D2
        clear D2 f0 f1 f2
        go_wp2_with (fail)
        refine (state_any b2 bb2 cc _ HD2.out.A.cl).mono ?_
        rintro r w4 ⟨rfl, hcl4, k4⟩
        have HD4 := Lib.hid (HD2.out.same k4)
        clear hcl4 k4
        have HG := Lib.hid (fun W (h : ClAt W b2 bb2 cc) => got_any b2 bb2 cc W h)
        have HO := Lib.hid (fun W (h : ClAt W b2 bb2 cc) => total_any b2 bb2 cc W h)
        obtain ⟨c0, c1, c2, c3, c4, c5, c6, c7, c8, c9, c10, c11, c12, c13, c14, c15, c16, c17, c18, c19, c20, c21, c22, c23, c24, c25⟩ := (HD4.out.M).cells
        have hf := (HD4.out.M).free
        go_upto_region 33 with (fail)
        go_cut [156] from 120 to 156 (fun v wx => v = .bool false ∧ DoAt (w.alloc (.cells (FeV ho ta fr li tm tr wt) FeT)) wx mb b2 bb2 cc yy a2)
        case first =>
          go_quiet (first
            | (go_at_call 11; exact Calls.quiet_of_same (HG.out _ (HD4.out.A.cl.drewN _)))
            | (go_at_call 15; exact Calls.quiet_of_same (HO.out _ (HD4.out.A.cl.drewN _))))
          go_wp2
          go_meet
          exact ⟨rfl, HD4.out.same ((Kept.refl _ _).drewN _)⟩
        case rest =>
          obtain ⟨rfl, D⟩ := hcut
          have HD5 := Lib.hid D
          clear D HD4
          clear c0 c1 c2 c3 c4 c5 c6 c7 c8 c9 c10 c11 c12 c13 c14 c15 c16 c17 c18 c19 c20 c21 c22 c23 c24 c25 hf
          go_wp2_with (fail)
          go_roundw
          case rel => exact ⟨k + 1, a2, b2, bb2, cc, yy, rfl, rfl, by go_num, by omega, by omega, by omega, HD5.out⟩
          case measure => simp [intOf]; omega
    · have hdone : (¬ (k : Int) < os.length) ∨ ((k : Int) < os.length ∧ ¬ (k : Int) < 100) := by omega
      rcases hdone with hd | ⟨hd1, hd2⟩
      · have hdf : decide ((k : Int) < os.length) = false := decide_eq_false hd
        go_wp2_with (fail)
        refine (cfixed_any _ (HT.out.kept HDD.out.A.kp)).mono ?_
        rintro e w3 ⟨rfl, k3⟩
        go_wp2_with (fail)
        go_ret
        exact ⟨rfl, (HA.out.trans' HDD.out.A.kp).trans' k3⟩
      · have hdf : decide ((k : Int) < 100) = false := decide_eq_false hd2
        go_wp2_with (fail)
        refine (cfixed_any _ (HT.out.kept HDD.out.A.kp)).mono ?_
        rintro e w3 ⟨rfl, k3⟩
        go_wp2_with (fail)
        go_ret
        exact ⟨rfl, (HA.out.trans' HDD.out.A.kp).trans' k3⟩
end CL
end
end Go.Proofs.YtgdncdhalnijcaaGreatDoor
