/- Walks and lemmas on the program of this seat, used by its statements; each theorem bears its own conditions. -/
import Derived.Test.YtncdfaocemfgfaaGreatDoorW47
import Derived.Test.YtncdfaocemfgfaaGreatDoorW48
import Derived.Test.YtncdfaocemfgfaaGreatDoorW13
import Derived.Handy
import Derived.OwnWalk
import Derived.Deep.AppendLies
import Derived.IntWalk
import Derived.Deep.CutRange
import Derived.Deep.RegionHeld3
import Derived.Deep.RegionLaw
import Derived.Maps.OwnSet
import Derived.Maps.Range
import Derived.Laws.IdiomCopy
namespace Go.Proofs.YtncdfaocemfgfaaGreatDoor
open Go.RowKit
set_option linter.unusedVariables false
set_option linter.unusedSimpArgs false
set_option linter.unusedSectionVars false
section
open Go.RowKit
set_option linter.unusedVariables false
set_option linter.unusedSimpArgs false
set_option maxHeartbeats 8000000
set_option maxRecDepth 100000
def pathT (p : List Nm) : List UInt8 := if p = [] then [47] else slashed p
def PV (p : List Nm) : Prop := p.length ≤ 8 ∧ p.all WX.nameB = true
theorem pathT_join (p : List Nm) : pathT p = 47 :: [47].intercalate p := by
  unfold pathT
  split
  · next h => subst h; rfl
  · next h => exact slashed_inter p h
theorem pathT_of {s : List UInt8} {p : List Nm} (h : WX.pathF s = some p) : s = pathT p ∧ PV p := by
  have h2 := WX.path_names h
  have h3 := WX.join_path h
  unfold WX.joinF at h3
  rw [if_pos h2] at h3
  exact ⟨by rw [pathT_join]; exact (congrArg Prod.fst h3).symm, h2⟩
theorem PV.nil : PV [] := ⟨by simp, rfl⟩
theorem PV.take {p : List Nm} (h : PV p) (k : Nat) : PV (p.take k) := ⟨by rw [List.length_take]; have := h.1; omega, List.all_eq_true.2 fun x hx => List.all_eq_true.1 h.2 x (List.mem_of_mem_take hx)⟩
theorem PV.front {p : List Nm} (h : PV p) : PV p.dropLast := by rw [List.dropLast_eq_take]; exact h.take _
def edCells (E : List Nd) : List Value := E.flatMap fun x => [S (pathT x.path), .bool x.dir, S x.data]
theorem edCells_at (E : List Nd) (i : Nat) (hi : i < E.length) : (edCells E)[i * 3]? = some (S (pathT E[i].path)) ∧ (edCells E)[i * 3 + 1]? = some (.bool E[i].dir) ∧ (edCells E)[i * 3 + 2]? = some (S E[i].data) := by
  induction E generalizing i with
  | nil => simp at hi
  | cons x t ih =>
    have e : edCells (x :: t) = S (pathT x.path) :: .bool x.dir :: S x.data :: edCells t := rfl
    cases i with
    | zero => rw [e]; exact ⟨rfl, rfl, rfl⟩
    | succ i =>
      have := ih i (by simpa using hi)
      rw [e, show (i + 1) * 3 = i * 3 + 1 + 1 + 1 by omega]
      simpa using this
def EDAt (w : World) (v : Value) (E : List Nd) : Prop := ∃ p c b, v = .slice p E.length c ∧ E.length ≤ c ∧ (E ≠ [] → p = some ⟨b, 0, none⟩) ∧
  ∀ (i : Nat) (hi : i < E.length), w.cell? ⟨b, i * 3, none⟩ = some (S (pathT E[i].path)) ∧ w.cell? ⟨b, i * 3 + 1, none⟩ = some (.bool E[i].dir) ∧ w.cell? ⟨b, i * 3 + 2, none⟩ = some (S E[i].data)
theorem EDAt.same {w w' : World} {v : Value} {E : List Nd} (h : EDAt w v E) (k : Kept [] w w') : EDAt w' v E := by
  obtain ⟨p, c, b, e, h0, h1, h2⟩ := h
  exact ⟨p, c, b, e, h0, h1, fun i hi => ⟨k.cellOf (h2 i hi).1, k.cellOf (h2 i hi).2.1, k.cellOf (h2 i hi).2.2⟩⟩
theorem EDAt.nil (w : World) : EDAt w (.slice none 0 0) [] := ⟨none, 0, 0, rfl, Nat.le_refl _, fun h => absurd rfl h, fun i hi => by simp at hi⟩
theorem EDAt.kept {w w' : World} {v : Value} {E : List Nd} {T : List Nat} (h : EDAt w v E) (k : Kept T w w') (hT : ∀ q, v.ownBlock = some q → q ∉ T) : EDAt w' v E := by
  obtain ⟨p, c, b, rfl, h0, h1, h2⟩ := h
  refine ⟨p, c, b, rfl, h0, h1, fun i hi => ?_⟩
  have e := h1 (by intro h; rw [h] at hi; simp at hi)
  subst e
  have hb := hT b rfl
  obtain ⟨a1, a2, a3⟩ := h2 i hi
  exact ⟨kept_cell k a1 hb, kept_cell k a2 hb, kept_cell k a3 hb⟩
abbrev EDOwn (w : World) (lo : Nat) (v : Value) (E : List Nd) : Prop := w.ownsRow lo 90 3 v E.length (edCells E)
theorem EDOwn.at {w : World} {lo : Nat} {v : Value} {E : List Nd} (h : EDOwn w lo v E) : EDAt w v E := by
  rcases h.2 with ⟨hv, h0⟩ | ⟨g, c, cur, hv, hb, hg, hn, hc, hsz, ht⟩
  · have : E = [] := List.length_eq_zero_iff.1 h0
    subst this
    rw [hv]
    exact EDAt.nil w
  · refine ⟨some ⟨g, 0, none⟩, c, g, hv, hn, fun _ => rfl, fun i hi => ?_⟩
    obtain ⟨q1, q2, q3⟩ := edCells_at E i hi
    rw [cell_at hg, cell_at hg, cell_at hg]
    have hcell : ∀ j, j < E.length * 3 → cur[j]? = (edCells E)[j]? := by
      intro j hj
      have := congrArg (fun l => l[j]?) ht
      rw [List.getElem?_take_of_lt hj, Array.getElem?_toList] at this
      exact this
    rw [hcell _ (by omega), hcell _ (by omega), hcell _ (by omega)]
    exact ⟨q1, q2, q3⟩
/-- The document's files: n blocks, so many given, the entries E. -/
def FDAt (w : World) (mb n given : Nat) (v : Value) (E : List Nd) : Prop := w.heap[mb]? = some (.cells #[I n, I given, v] 62 (0, 0)) ∧ EDAt w v E
theorem FDAt.same {w w' : World} {mb n given : Nat} {v : Value} {E : List Nd} (h : FDAt w mb n given v E) (k : Kept [] w w') : FDAt w' mb n given v E := ⟨k.at h.1 (by simp), h.2.same k⟩
theorem FDAt.cells {w : World} {mb n given : Nat} {v : Value} {E : List Nd} (h : FDAt w mb n given v E) : w.cell? ⟨mb, 0, none⟩ = some (I n) ∧ w.cell? ⟨mb, 1, none⟩ = some (I given) ∧ w.cell? ⟨mb, 2, none⟩ = some v := by
  refine ⟨?_, ?_, ?_⟩ <;> · rw [cell_at h.1]; rfl
section
variable {w : World} {mb n given g0 : Nat} {v : Value} {E : List Nd} (h : FDAt w mb n given v E) (hE : E.length ≤ 1000) (hw : WF g0 E)
include h hE hw
end
end
section
open Go.RowKit
set_option linter.unusedVariables false
set_option linter.unusedSimpArgs false
set_option maxHeartbeats 8000000
set_option maxRecDepth 100000
def sumK (D i : Nat) : Nat := ((List.range i).map fun j => pagesF (7 + min 128 (D - 128 * j))).sum
theorem sumK_succ (D i : Nat) : sumK D (i + 1) = sumK D i + pagesF (7 + min 128 (D - 128 * i)) := by
  unfold sumK
  rw [List.range_succ, List.map_append, List.sum_append]
  simp
theorem wX_is (E : List Nd) (x : Nd) : wL (objX E x) = wF (rowX E x) + sumK x.data.length (cnt x.data.length) := by
  unfold objX wL sumK wF
  rw [List.map_cons, List.sum_cons, List.map_map]
  congr 2
  refine List.map_congr_left fun i _ => ?_
  simp only [Function.comp]
  rw [chunk_len]
end
section
open Go.RowKit
set_option linter.unusedVariables false
set_option linter.unusedSimpArgs false
set_option maxHeartbeats 8000000
set_option maxRecDepth 100000
abbrev DSE (mb n given : Nat) (v : Value) (w w' : World) : Prop := w'.cell? ⟨mb, 0, none⟩ = some (I n) ∧ w'.cell? ⟨mb, 1, none⟩ = some (I given) ∧ w'.cell? ⟨mb, 2, none⟩ = some v ∧ Kept [] w w'
theorem DSE.step {mb n given : Nat} {v : Value} {w w' w'' : World} (h : DSE mb n given v w w') (k : Kept [] w' w'') : DSE mb n given v w w'' := ⟨k.cellOf h.1, k.cellOf h.2.1, k.cellOf h.2.2.1, h.2.2.2.trans' k⟩
theorem DSE.k {mb n given : Nat} {v : Value} {w w' : World} (h : DSE mb n given v w w') : Kept [] w w' := h.2.2.2
end
section
open Go.RowKit
set_option linter.unusedVariables false
set_option linter.unusedSimpArgs false
set_option maxHeartbeats 8000000
set_option maxRecDepth 100000
/-- What a call of the document's that changes comes to. -/
def RDP (w : World) (mb n : Nat) (v : Value) (R : Int × Nat × List Nd) (e : Ending) (w' : World) : Prop :=
  e = .returned (I R.1) ∧ (∃ v'', FDAt w' mb n R.2.1 v'' R.2.2 ∧ ∀ q, v''.ownBlock = some q → v.ownBlock = some q ∨ (w.heap.size ≤ q ∧ q < w'.heap.size)) ∧ Kept [mb] w w'
theorem RDP.no {w w' : World} {mb n given : Nat} {v : Value} {E : List Nd} (h : FDAt w mb n given v E) (k : Kept [] w w') (r : Int) : RDP w mb n v (r, given, E) (.returned (I r)) w' :=
  ⟨rfl, ⟨v, h.same k, fun q hq => .inl hq⟩, k.mono (by simp)⟩
/-- The document's files, with the code's bounds. -/
structure DF (w : World) (mb n given : Nat) (v : Value) (E : List Nd) : Prop where
  at' : FDAt w mb n given v E
  few : E.length ≤ 900
  gv : given ≤ 16777000
  wf : WF given E
  eight : 8 ≤ n
  big : n ≤ 255
  own : ∀ q, v.ownBlock = some q → q ≠ mb
theorem DF.same {w w' : World} {mb n given : Nat} {v : Value} {E : List Nd} (h : DF w mb n given v E) (k : Kept [] w w') : DF w' mb n given v E := ⟨h.at'.same k, h.few, h.gv, h.wf, h.eight, h.big, h.own⟩
theorem DF.lt {w : World} {mb n given : Nat} {v : Value} {E : List Nd} (h : DF w mb n given v E) : mb < w.heap.size := lt_of_block h.at'.1
end
section
open Go.RowKit
set_option linter.unusedVariables false
set_option linter.unusedSimpArgs false
set_option maxHeartbeats 8000000
set_option maxRecDepth 100000
theorem find_ent (E : List Nd) : ∀ (r so : List Nm), findF E so r = 0 → r ≠ [] → (ent E (so ++ r)).isSome = true
  | [], so, _, h => absurd rfl h
  | n :: r, so, h, _ => by
    by_cases h1 : isDirP E so = false
    · rw [findF_not h1] at h; cases h
    · have h1 : isDirP E so = true := by simpa using h1
      cases h2 : (ent E (so ++ [n])).isSome with
      | false => rw [findF_none h1 h2] at h; cases h
      | true =>
        rw [findF_snoc_ok h1 h2] at h
        by_cases hr : r = []
        · subst hr; exact h2
        · have := find_ent E r _ h hr
          rwa [List.append_assoc] at this
end
section
open Go.RowKit
set_option linter.unusedVariables false
set_option linter.unusedSimpArgs false
set_option maxHeartbeats 8000000
set_option maxRecDepth 100000
end
section
open Go.RowKit
set_option linter.unusedVariables false
set_option linter.unusedSimpArgs false
set_option maxHeartbeats 8000000
set_option maxRecDepth 100000
end
section
open Go.RowKit
set_option linter.unusedVariables false
set_option linter.unusedSimpArgs false
set_option maxHeartbeats 8000000
set_option maxRecDepth 100000
end
section
open Go.RowKit
set_option linter.unusedVariables false
set_option linter.unusedSimpArgs false
set_option maxHeartbeats 8000000
set_option maxRecDepth 100000
section
variable {w w' : World} {ff fb sb n : Nat} {V : OM} {d : Nat} {T : List Nat} {z : Bool} {given : Nat} {E : List Nd} {U : List Nat}
theorem DF.kept {mb : Nat} {v : Value} {S : List Nat} (h : DF w mb n given v E) (k : Kept S w w') (hm : mb ∉ S) (hv : ∀ q, v.ownBlock = some q → q ∉ S) : DF w' mb n given v E :=
  ⟨⟨k.at h.at'.1 hm, h.at'.2.kept k hv⟩, h.few, h.gv, h.wf, h.eight, h.big, h.own⟩
end

def blk16 (n : Int) : Nat := (max 8 (min n 30)).toNat
theorem blk16_bound (n : Int) : 8 ≤ blk16 n ∧ blk16 n ≤ 30 ∧ (blk16 n : Int) = max 8 (min n 30) := by unfold blk16; omega
theorem lawblk16_any (w : World) (n : Int) : Calls Tryz.prog 25 #[I n] w fun e w' => e = .returned (I (blk16 n)) ∧ w' = w := by
  have h := (blk16_bound n).2.2
  have h2 : max (8 : Int) (min n 30) = (blk16 n : Int) := h.symm
  obtain ⟨q, hq⟩ : ∃ q, blk16 n = q := ⟨_, rfl⟩
  rw [hq] at h2 ⊢
  clear h hq
  go_enter Tryz.func25, Tryz.ntmps25
  go_wp2_with (fail)
  go_ret
  exact ⟨rfl, rfl⟩
theorem over16_any (w : World) (fb bb cb n : Nat) (f : Fl) (h : FlAt w fb bb cb f) (h1 : 1 ≤ n) (h2 : f.cs.length = n + 1) :
    Calls Tryz.prog 26 #[Ptr fb] w fun e w' => ∃ pb, e = .returned (Ptr pb) ∧ w.heap.size ≤ pb ∧ PtAt w' pb fb bb cb 1 n f ∧ Kept [] w w' := by
  have HB := Lib.hid (blocks_any w fb bb cb f h)
  have HP := Lib.hid (pnew_any w fb bb cb 1 n f h h1 (by omega))
  have hfew := h.few
  rw [h2] at HB hfew
  have hnI : (n : Int) ≤ 255 := by omega
  have hwr : IntKind.i64.wrap (((n + 1 : Nat) : Int) - 1) = (n : Int) := by rw [IntKind.wrap_i64]; omega
  clear h h1 h2 hfew
  obtain ⟨N, hN⟩ : ∃ N : Nat, n + 1 = N := ⟨_, rfl⟩
  rw [hN] at HB hwr
  clear hN
  go_enter Tryz.func26, Tryz.ntmps26
  go_wp2_with (fail)
  refine HB.out.mono ?_
  rintro e w1 ⟨rfl, rfl⟩
  go_wp2_with (fail)
  refine HP.out.mono ?_
  rintro e w2 ⟨pb, rfl, hpb, hpt, k2⟩
  have H2 := Lib.hid (And.intro hpb (And.intro hpt k2))
  clear hpb hpt k2
  go_wp2_with (fail)
  go_ret
  exact ⟨pb, rfl, H2.out⟩
theorem formed_ok (w : World) (sb : Nat) : Calls Tryz.prog 70 #[Ptr sb, I 0] w fun e w' => ∃ ff, e = .returned (.tuple #[Ptr ff, I 0]) ∧ w.heap.size ≤ ff ∧ w'.cell? ⟨ff, 0, none⟩ = some (Ptr sb) ∧ ff < w'.heap.size ∧ Kept [] w w' := by
  go_enter Tryz.func70, Tryz.ntmps70
  go_wp2_with (fail)
  go_ret2
  have hk := (Kept.refl [] w).alloc (.cells #[Ptr sb] 114)
  refine ⟨w.heap.size, rfl, Nat.le_refl _, ?_, lt_of_block (heap_new w _), hk⟩
  rw [cell_at (heap_new w _)]; rfl
theorem sim_nil : SimV [] 0 [] := by
  intro k
  show none = objF 0 [] k
  unfold objF
  by_cases h1 : k = 1
  · rw [if_pos h1, if_pos rfl]
  · rw [if_neg h1]
    by_cases h2 : k < 64
    · rw [if_pos h2]
    · rw [if_neg h2]
      split
      · rw [if_neg (fun h => h.2 rfl)]
      · rfl
theorem wf_nil : WF 0 [] := ⟨by simp [DistP], by simp, by simp, by simp, by simp, fun p => Nat.zero_le 6, by simp⟩
def flL (n : Nat) : Fl := madeF (flNew (n + 1)) 1 0 1
theorem newL_clean (n k : Nat) (h : k ≤ n) : blockOf (flNew (n + 1)).bs k = fullB := by
  show ((List.replicate (512 * (n + 1)) 255).drop (512 * k)).take 512 = List.replicate 512 255
  rw [List.drop_replicate, List.take_replicate]
  congr 1
  omega
theorem sat_stz {w' : World} {fb bb cb pb sb lb mb kb n : Nat} {v : Value} (h2 : SAt w' sb lb pb fb bb cb mb kb n v St0 (flL n)) (h8 : 8 ≤ n) : STZ w' fb sb n [] 0 (pb :: StT sb lb fb bb cb mb kb v) true := by
  have hI := h2.inv
  have hst : St0.init.length = 0 := rfl
  have hseg : St0.segs = [[]] := rfl
  have hD0 : St0.D = 0 := rfl
  have hfl : FlX n (flL n) ⟨St0, 0⟩ false := by
    intro j hj
    have h6 := h2.fl j hj
    show match St0.segs[j]? with | some rs => ∃ u, SegIs (St0.D + j + 1) (rs.map recF) u (blockOf (flL n).bs (1 + (St0.D + j) % n)) ∧ (j = St0.init.length → u = 0) | none => JunkB (blockOf (flL n).bs (1 + (St0.D + j) % n)) ∨ (false = true ∧ j = St0.init.length + 1 ∧ j + 1 = n ∧ HeadB (St0.D + j + 1) (blockOf (flL n).bs (1 + (St0.D + j) % n)))
    rw [hseg] at h6 ⊢
    cases j with
    | zero =>
      have h6 : blockOf (flL n).bs (1 + (St0.D + 0) % n) = segB (St0.D + 0 + 1) [] := h6
      refine ⟨0, ?_, fun _ => rfl⟩
      rw [h6]
      have := SegIs.new (St0.D + 0 + 1)
      have e : segB (St0.D + 0 + 1) [] = newB (St0.D + 0 + 1) := by unfold segB segP newB; simp [usedF]
      rw [e]
      exact this
    | succ j =>
      have h6 : blockOf (flL n).bs (1 + (St0.D + (j + 1)) % n) = fullB := h6
      exact .inl (by rw [h6]; exact junk_full)
  have hsk : SAtK w' sb lb pb fb bb cb mb kb n v ⟨St0, 0⟩ (flL n) := ⟨h2.lg, h2.core, hfl, ⟨hI, by show usedS [] ≤ 0; simp [usedS], by show 0 ≤ 7; omega⟩, ⟨h2.live.1, by rw [h2.live.2]; decide, by rw [h2.live.2]; decide, by show (0 : Int) ≤ 0; decide⟩, h2.sep⟩
  exact ⟨bb, cb, pb, lb, mb, kb, v, ⟨St0, 0⟩, flL n, rfl, hsk, ⟨h8, by show St0.init.length + 2 ≤ n; omega, Nat.zero_le _⟩, List.Pairwise.nil, fun _ => rfl, Nat.le_refl _, (cs0 (n := n) (by omega) _ rfl).2.2, fun _ => h2.live.2⟩
def Laid16 (n : Nat) (w : World) (e : Ending) (w' : World) : Prop :=
  ∃ fb ff mb sb T, e = .returned (.tuple #[Ptr fb, Ptr ff, Ptr mb]) ∧ STZ w' fb sb n [] 0 T true ∧ w'.cell? ⟨ff, 0, none⟩ = some (Ptr sb) ∧ DF w' mb n 0 (.slice none 0 0) [] ∧ (∀ x ∈ T, w.heap.size ≤ x ∧ x < w'.heap.size ∧ x ≠ ff ∧ x ≠ mb) ∧ w.heap.size ≤ ff ∧ ff < w'.heap.size ∧ w.heap.size ≤ mb ∧ mb ≠ ff ∧ Kept [] w w'
set_option maxHeartbeats 2000000 in
theorem fformat_any (w : World) (pb fb bb cb n : Nat) (f : Fl) (h : PtAt w pb fb bb cb 1 n f) (hd : f.dead = false) (ha : f.armed = 0) (h8 : 8 ≤ n) (hc : ∀ k, k < n → blockOf f.bs (1 + k) = fullB) :
    Calls Tryz.prog 27 #[Ptr pb] w fun e w' => ∃ ff sb lb mb kb v, e = .returned (.tuple #[Ptr ff, I 0]) ∧ SAt w' sb lb pb fb bb cb mb kb n v St0 (madeF f 1 0 1) ∧ w'.cell? ⟨ff, 0, none⟩ = some (Ptr sb) ∧ (∀ x, x ∈ StT sb lb fb bb cb mb kb v → x ∈ [fb, bb, cb] ∨ w.heap.size ≤ x) ∧ (∀ x, x ∈ StT sb lb fb bb cb mb kb v → x ≠ ff) ∧ w.heap.size ≤ ff ∧ ff < w'.heap.size ∧ Kept [fb, bb, cb] w w' := by
  have HF := Lib.hid (sformat_any w pb fb bb cb n f h hd ha h8 hc)
  have HD := Lib.hid (fun W sb => formed_ok W sb)
  clear h hd ha h8 hc
  go_enter Tryz.func27, Tryz.ntmps27
  go_wp2_with (fail)
  refine HF.out.mono ?_
  rintro e w1 ⟨sb, lb, mb, kb, v, rfl, hs, g5, g6, g7, g8, g9, k4⟩
  have H1 := Lib.hid (And.intro hs (And.intro g5 (And.intro g6 (And.intro g7 (And.intro g8 (And.intro g9 k4))))))
  clear hs g5 g6 g7 g8 g9 k4
  go_wp2_with (fail)
  refine (HD.out w1 sb).mono ?_
  rintro e w2 ⟨ff, rfl, h1, h2, h3, k2⟩
  have H2 := Lib.hid (And.intro h1 (And.intro h2 (And.intro h3 k2)))
  clear h1 h2 h3 k2
  go_wp2_with (fail)
  go_ret2
  obtain ⟨hs, g5, g6, g7, g8, g9, k4⟩ := H1.out
  obtain ⟨h1, h2, h3, k2⟩ := H2.out
  have hlt := stT_lt hs
  have z4 := k4.size
  refine ⟨ff, sb, lb, mb, kb, v, rfl, hs.same k2, h2, fun x hx => ?_, fun x hx => ?_, by omega, h3, k4.trans' (k2.mono (by simp))⟩
  · simp only [StT, LgT, List.mem_append, Option.mem_toList] at hx
    rcases hx with hx | hx | hx
    · simp at hx
      rcases hx with rfl | rfl | rfl
      · exact .inr g5
      · exact .inr g7
      · exact .inr g8
    · simp at hx
      rcases hx with rfl | rfl | rfl | rfl
      · exact .inr g6
      · exact .inl (by simp)
      · exact .inl (by simp)
      · exact .inl (by simp)
    · exact .inr (g9 x (by simpa using hx))
  · have := hlt.1 x hx; omega
set_option maxHeartbeats 2000000 in
theorem laid16_any (w : World) (m : Int) : Calls Tryz.prog 8 #[I m] w (Laid16 (blk16 m) w) := by
  obtain ⟨q1, q2, _⟩ := blk16_bound m
  have HB := Lib.hid (fun W => lawblk16_any W m)
  obtain ⟨n, hn⟩ : ∃ n, blk16 m = n := ⟨_, rfl⟩
  rw [hn] at HB q1 q2 ⊢
  have HN := Lib.hid (fnew_any w (n + 1) (by omega) (by omega))
  have HO := Lib.hid (fun W fb bb cb (h : FlAt W fb bb cb (flNew (n + 1))) => over16_any W fb bb cb n _ h (by omega) (by simp [flNew]))
  have HF := Lib.hid (fun W pb fb bb cb (h : PtAt W pb fb bb cb 1 n (flNew (n + 1))) => fformat_any W pb fb bb cb n _ h rfl rfl q1 (fun k hk => newL_clean n (1 + k) (by omega)))
  have HQ := Lib.hid (And.intro q1 q2)
  have hadd : IntKind.i64.wrap ((n : Int) + 1) = ((n + 1 : Nat) : Int) := by rw [IntKind.wrap_i64]; omega
  obtain ⟨N, hN⟩ : ∃ N, n + 1 = N := ⟨_, rfl⟩
  have hz : flL n = madeF (flNew N) 1 0 1 := by rw [← hN]; rfl
  have HZ := Lib.hid hz
  rw [hN] at HN HO HF hadd
  have hnI : (n : Int) ≤ 30 := by omega
  clear hN q1 q2 hz hn
  go_enter Tryz.func8, Tryz.ntmps8
  go_wp2_with (fail)
  refine (HB.out _).mono ?_
  rintro e w1 ⟨rfl, rfl⟩
  go_wp2_with (fail)
  refine HN.out.mono ?_
  rintro e w2 ⟨fb, bb, cb, rfl, g1, g2, g3, hf, k2⟩
  have H2 := Lib.hid (And.intro g1 (And.intro g2 (And.intro g3 (And.intro hf k2))))
  clear g1 g2 g3 hf k2
  go_wp2_with (fail)
  refine (HO.out _ _ _ _ H2.out.2.2.2.1).mono ?_
  rintro e w3 ⟨pb, rfl, g4, hp, k3⟩
  have H3 := Lib.hid (And.intro g4 (And.intro hp k3))
  clear g4 hp k3
  go_wp2_with (fail)
  refine (HF.out _ _ _ _ _ H3.out.2.1).mono ?_
  rintro e w4 ⟨ff, sb, lb, mb, kb, v, rfl, hs, g5, g6, g7, g8, g9, k4⟩
  have H4 := Lib.hid (And.intro hs (And.intro g5 (And.intro g6 (And.intro g7 (And.intro g8 (And.intro g9 k4))))))
  clear hs g5 g6 g7 g8 g9 k4
  go_wp2_with (fail)
  refine (HB.out _).mono ?_
  rintro e w5 ⟨rfl, rfl⟩
  go_wp2_with (fail)
  go_ret3
  obtain ⟨g1, g2, g3, hf, k2⟩ := H2.out
  obtain ⟨g4, hp, k3⟩ := H3.out
  obtain ⟨hs, g5, g6, g7, g8, g9, k4⟩ := H4.out
  have z2 := k2.size
  have z3 := k3.size
  have z4 := k4.size
  have hk := (Kept.refl [] w5).alloc (.cells #[I n, I 0, .slice none 0 0] 62)
  show Laid16 n w1 _ (w5.alloc (.cells #[I n, I 0, .slice none 0 0] 62))
  have hz := lt_of_block (heap_new w5 (.cells #[I n, I 0, .slice none 0 0] 62))
  rw [← HZ.out] at hs
  have hst := (sat_stz hs HQ.out.1).same hk
  have hlt := stT_lt hs
  have hnew := heap_new w5 (.cells #[I n, I 0, .slice none 0 0] 62)
  refine ⟨fb, ff, w5.heap.size, sb, _, rfl, hst, hk.cellOf g5, ⟨⟨hnew, EDAt.nil _⟩, by simp, by omega, wf_nil, HQ.out.1, by have := HQ.out.2; omega, fun q (hq : none = some q) => by cases hq⟩, fun x hx => ?_, by omega, by omega, by omega, by omega, ((k2.trans' k3).new k4 (by intro x hx; simp at hx; omega)).trans' hk⟩
  rcases List.mem_cons.1 hx with rfl | hx
  · have := hlt.2
    have := lt_of_block hp.blk
    exact ⟨by omega, by omega, by omega, by omega⟩
  · have h9 := hlt.1 x hx
    refine ⟨?_, by omega, g7 x hx, by omega⟩
    rcases g6 x hx with h6 | h6
    · simp at h6; omega
    · omega
end
section
open Go.RowKit
set_option linter.unusedVariables false
set_option linter.unusedSimpArgs false
set_option maxHeartbeats 8000000
set_option maxRecDepth 100000
def qZ : List UInt8 := List.replicate 60 0
def qE1 : List Nd := [⟨[[97]], 2, false, []⟩]
def qE2 : List Nd := [⟨[[97]], 2, false, qZ⟩]
def qE3 : List Nd := [⟨[[97]], 2, false, qZ⟩, ⟨[[100]], 3, true, []⟩]
def qE4 : List Nd := [⟨[[100], [97]], 2, false, qZ⟩, ⟨[[100]], 3, true, []⟩]
theorem qx1 : makeF 14 0 [] [47, 97] false = (0, 1, qE1) := by kernel_rfl
theorem qx2 : wL (objL 1 qE1) = 3 := by kernel_rfl
theorem qx3 : writeF 14 1 qE1 [47, 97] 0 qZ = (0, 1, qE2) := by kernel_rfl
theorem qx4 : wL (objL 1 qE2) = 5 := by kernel_rfl
theorem qx5 : makeF 14 1 qE2 [47, 100] true = (0, 2, qE3) := by kernel_rfl
theorem qx6 : renameF 14 2 qE3 [47, 97] [47, 100, 47, 97] = (0, 2, qE4) := by kernel_rfl
theorem qx7 : listF qE4 [47, 100] = (0, [[97]]) := by kernel_rfl
theorem qx8 : renameF 14 2 qE4 [47, 100] [47, 100, 47, 120] = (164, 2, qE4) := by kernel_rfl
theorem qx9 : makeF 14 2 qE4 [47, 100, 47, 97, 47, 98] false = (163, 2, qE4) := by kernel_rfl
theorem qx10 : readF qE4 [47, 100, 47, 97] 58 9 = ([0, 0], 0) := by kernel_rfl
theorem qx11 : makeF 14 2 qE4 [97] false = (160, 2, qE4) := by kernel_rfl
structure Grown (given : Nat) (E : List Nd) (R : Int × Nat × List Nd) : Prop where
  wf : WF R.2.1 R.2.2
  gv : R.2.1 ≤ given + 1
  few : R.2.2.length ≤ E.length + 1
  no : R.1 ≠ 0 → R.2 = (given, E)
section
variable {n given : Nat} {E : List Nd}
theorem Grown.refuse (h : WF given E) (r : Int) : Grown given E (r, given, E) := ⟨h, Nat.le_succ _, Nat.le_succ _, fun _ => rfl⟩
theorem Grown.try {g' : Nat} {E' : List Nd} (h : WF given E) (h' : WF g' E') (hg : g' ≤ given + 1) (hl : E'.length ≤ E.length + 1) : Grown given E (tryF n given E g' E') := by
  unfold tryF
  split
  · exact ⟨h', hg, hl, fun h => absurd rfl h⟩
  · exact Grown.refuse h 166
theorem make_grown (h : WF given E) (s : List UInt8) (dir : Bool) : Grown given E (makeF n given E s dir) := by
  unfold makeF
  split
  · exact .refuse h _
  · next p hp =>
    obtain ⟨-, hpv⟩ := pathT_of hp
    split
    · exact .refuse h _
    · next hp0 =>
      split
      · exact .refuse h _
      · split
        · exact .refuse h _
        · next hd =>
          split
          · exact .refuse h _
          · next he =>
            split
            · exact .refuse h _
            · next hk =>
              have hd : isDirP E p.dropLast = true := by cases hx : isDirP E p.dropLast with | true => rfl | false => exact absurd hx hd
              have he : ent E p = none := by cases hx : ent E p with | none => rfl | some x => rw [hx] at he; exact absurd rfl he
              have := h.few p.dropLast
              exact .try h (wf_make h hp0 hpv.1 hpv.2 hd he (by omega) dir) (Nat.le_refl _) (by simp)
theorem set_len (x : Nd) : (setE E x).length ≤ E.length + 1 := by
  unfold setE
  rw [List.length_append]
  have := List.length_filter_le (fun y : Nd => decide (y.path ≠ x.path)) E
  simp only [List.length_singleton]
  omega
theorem set_grown (h : WF given E) {s : List UInt8} (hf : (fileF E s).1 = 0) {D : List UInt8} (hD : D.length ≤ 4096) : WF given (setE E ⟨(fileF E s).2.path, (fileF E s).2.num, (fileF E s).2.dir, D⟩) := by
  obtain ⟨p, hp, hf0, hxd, hxe, hxE⟩ := file_mem (E := E) (s := s) hf
  have hxdir : (fileF E s).2.dir = false := by rw [← isDirP_of h hxe]; exact hxd
  exact wf_set h hxE rfl rfl rfl hD (by intro hh; rw [show (⟨(fileF E s).2.path, (fileF E s).2.num, (fileF E s).2.dir, D⟩ : Nd).dir = (fileF E s).2.dir from rfl, hxdir] at hh; cases hh)
theorem write_grown (h : WF given E) (s : List UInt8) (a : Int) (t : List UInt8) : Grown given E (writeF n given E s a t) := by
  unfold writeF
  split
  · exact .refuse h _
  · next hf =>
    split
    · exact .refuse h _
    · next hb =>
      have hf : (fileF E s).1 = 0 := by simpa using hf
      obtain ⟨p, hp, hf0, hxd, hxe, hxE⟩ := file_mem (E := E) (s := s) hf
      have h4 := (h.data _ hxE).1
      simp only [not_or] at hb
      obtain ⟨b1, b2, b3, b4⟩ := hb
      refine .try h (set_grown h hf ?_) (Nat.le_succ _) (set_len _)
      rw [wrB_len _ _ _ (by omega)]
      omega
theorem trunc_grown (h : WF given E) (s : List UInt8) (a : Int) : Grown given E (truncF n given E s a) := by
  unfold truncF
  split
  · exact .refuse h _
  · next hf =>
    split
    · exact .refuse h _
    · next hb =>
      have hf : (fileF E s).1 = 0 := by simpa using hf
      obtain ⟨p, hp, hf0, hxd, hxe, hxE⟩ := file_mem (E := E) (s := s) hf
      have h4 := (h.data _ hxE).1
      refine .try h (set_grown h hf ?_) (Nat.le_succ _) (set_len _)
      rw [List.length_take]
      omega
theorem rename_grown (h : WF given E) (s t : List UInt8) : Grown given E (renameF n given E s t) := by
  unfold renameF
  split
  · exact .refuse h _
  next p hp =>
  split
  · exact .refuse h _
  next q hq =>
  obtain ⟨-, hqv⟩ := pathT_of hq
  split
  · exact .refuse h _
  next hp0 =>
  split
  · exact .refuse h _
  next hf =>
  split
  · exact .refuse h _
  next hb =>
  split
  · exact .refuse h _
  next hq0 =>
  split
  · exact .refuse h _
  split
  · exact .refuse h _
  next hd =>
  split
  · exact .refuse h _
  next he =>
  split
  · exact .refuse h _
  next hk =>
  have hf : findF E [] p = 0 := by simpa using hf
  obtain ⟨x, hx⟩ := Option.isSome_iff_exists.1 (find_ent E p [] hf hp0)
  replace hx : ent E p = some x := hx
  obtain ⟨hxE, hxp⟩ := ent_mem hx
  have hd : isDirP E q.dropLast = true := by cases hx : isDirP E q.dropLast with | true => rfl | false => exact absurd hx hd
  have he : ent E q = none := by cases hx : ent E q with | none => rfl | some x => rw [hx] at he; exact absurd rfl he
  have hpq : ¬ ∃ r, q = x.path ++ r := by
    rintro ⟨r, hr⟩
    rw [hxp] at hr
    by_cases hr0 : r = []
    · rw [hr0, List.append_nil] at hr
      rw [hr, hx] at he
      cases he
    · have hl := List.length_pos_iff.2 hr0
      exact hb ⟨by rw [hr, List.length_append]; omega, by rw [hr]; simp⟩
  have hw := wf_ren h hxE hq0 he hpq hqv hd (by
    rw [hxp]
    by_cases he : p.dropLast = q.dropLast
    · exact .inr he
    · left
      have := h.few q.dropLast
      rcases Nat.lt_or_ge (kids E q.dropLast).length 6 with h6 | h6
      · omega
      · exact absurd (.inl ⟨by omega, he⟩) hk) (fun y hy r hr => by
    rw [hxp] at hr
    have := depth_le hy hr
    rcases Nat.lt_or_ge 8 (q.length + depthF E p) with h8 | h8
    · exact absurd (.inr h8) hk
    · omega)
  rw [hxp] at hw
  refine .try h hw (Nat.le_succ _) ?_
  unfold renE
  rw [List.length_map]
  exact Nat.le_succ _
end
section
variable {w : World} {ff fb sb n : Nat} {V : OM} {d : Nat} {T : List Nat} {z : Bool} {given : Nat} {E : List Nd} {U : List Nat}
theorem stk_quota (h : STK w fb sb n V d T) : Calls Tryz.prog 81 #[Ptr sb] w fun e w' => e = .returned (I (quotaF n : Nat)) ∧ w' = w := by
  obtain ⟨bb, cb, pb, lb, mb, kb, v, st, f, e, h1, h2, h3, h4, h5, h6⟩ := h
  obtain ⟨C, hc, _⟩ := h1.core
  exact oquota_any w sb pb lb mb kb fb bb cb n _ _ C hc f h1.lg.pt h2.1
theorem fweight_any (h : FR w ff sb V given E) : Calls Tryz.prog 39 #[Ptr ff] w fun e w' => e = .returned (I (wL (objL given E) : Nat)) ∧ w' = w := by
  have HW := Lib.hid (RD.weight h.rd)
  rw [sim_weight h.rd.1 h.wf h.sim] at HW
  have c0 := h.cell
  clear h
  go_enter Tryz.func39, Tryz.ntmps39
  go_wp2_with (fail)
  refine HW.out.mono ?_
  rintro e w1 ⟨rfl, rfl⟩
  go_wp2_with (fail)
  go_ret
  exact ⟨rfl, rfl⟩
theorem fquota_any (h : STK w fb sb n V d T) (c0 : w.cell? ⟨ff, 0, none⟩ = some (Ptr sb)) : Calls Tryz.prog 38 #[Ptr ff] w fun e w' => e = .returned (I (quotaF n : Nat)) ∧ w' = w := by
  have HW := Lib.hid (stk_quota h)
  clear h
  go_enter Tryz.func38, Tryz.ntmps38
  go_wp2_with (fail)
  refine HW.out.mono ?_
  rintro e w1 ⟨rfl, rfl⟩
  go_wp2_with (fail)
  go_ret
  exact ⟨rfl, rfl⟩
end
def Lf (w0 w : World) (ff fb sb n d given : Nat) (E : List Nd) (M : List Nat) : Prop :=
  ∃ V T U, CH w ff fb sb n V d T true given E U ∧ (∀ x ∈ T, w0.heap.size ≤ x) ∧ (∀ x ∈ M, x ∉ T ∧ x ∉ U ∧ x < w.heap.size ∧ w0.heap.size ≤ x) ∧ Kept [] w0 w
def Df (w : World) (mb n given : Nat) (v : Value) (E : List Nd) (M : List Nat) : Prop := DF w mb n given v E ∧ mb ∈ M ∧ ∀ q, v.ownBlock = some q → q ∈ M
section
variable {w0 w : World} {ff fb sb n d given : Nat} {E : List Nd} {M : List Nat}
theorem Lf.same {w' : World} (h : Lf w0 w ff fb sb n d given E M) (k : Kept [] w w') : Lf w0 w' ff fb sb n d given E M := by
  obtain ⟨V, T, U, h1, h2, h3, h4⟩ := h
  exact ⟨V, T, U, h1.same k, h2, fun x hx => ⟨(h3 x hx).1, (h3 x hx).2.1, Nat.lt_of_lt_of_le (h3 x hx).2.2.1 k.size, (h3 x hx).2.2.2⟩, h4.trans' k⟩
theorem Lf.fr (h : Lf w0 w ff fb sb n d given E M) : (∃ V, FR w ff sb V given E) ∧ Tabs w := by
  obtain ⟨V, T, U, h1, _⟩ := h
  exact ⟨⟨V, h1.fr⟩, h1.tabs.1⟩
theorem Lf.wf (h : Lf w0 w ff fb sb n d given E M) : WF given E := by obtain ⟨V, T, U, h1, _⟩ := h; exact h1.wf
theorem Lf.old (h : Lf w0 w ff fb sb n d given E M) : Kept [] w0 w := by obtain ⟨V, T, U, h1, _, _, h4⟩ := h; exact h4
theorem Lf.tabs (h : Lf w0 w ff fb sb n d given E M) : ∃ U, TabsU w U := by obtain ⟨V, T, U, h1, _⟩ := h; exact ⟨U, h1.tabs⟩
theorem Lf.mono {d' : Nat} (h : Lf w0 w ff fb sb n d given E M) (hd : d ≤ d') (h6 : d' ≤ 600000000) : Lf w0 w ff fb sb n d' given E M := by
  obtain ⟨V, T, U, h1, h2⟩ := h
  exact ⟨V, T, U, ⟨h1.st.mono hd, h1.cell, h1.sim, h1.wf, h1.gv, h1.tabs, h1.ffU, h1.sep, h6⟩, h2⟩
theorem lf_quota (h : Lf w0 w ff fb sb n d given E M) : Calls Tryz.prog 38 #[Ptr ff] w fun e w' => e = .returned (I (quotaF n : Nat)) ∧ w' = w := by
  obtain ⟨V, T, U, h1, _⟩ := h
  exact fquota_any h1.st.stk h1.cell
theorem lf_weight (h : Lf w0 w ff fb sb n d given E M) : Calls Tryz.prog 39 #[Ptr ff] w fun e w' => e = .returned (I (wL (objL given E) : Nat)) ∧ w' = w := by
  obtain ⟨⟨V, h1⟩, _⟩ := h.fr
  exact fweight_any h1
/-- A call that changes. -/
theorem lf_op {f : Nat} {a : Array Value} {R : Int × Nat × List Nd} (h : Lf w0 w ff fb sb n d given E M) (hd : d ≤ 500000000) (hn : n ≤ 255) (c : ∀ V T U, CH w ff fb sb n V d T true given E U → Calls Tryz.prog f a w (OpP w fb sb n V d T true given E R)) (g : Grown given E R) (hg : given + 1 ≤ 16777000) :
    Calls Tryz.prog f a w fun e w' => e = .returned (I R.1) ∧ Lf w0 w' ff fb sb n (d + 2 * (n + 1)) R.2.1 R.2.2 M ∧ ∃ T, (∀ x ∈ M, x ∉ T) ∧ Kept T w w' := by
  obtain ⟨V, T, U, h1, h2, h3, h4⟩ := h
  refine (c V T U h1).mono ?_
  rintro e w' ⟨r, T', rfl, hp, hlt, hk, hT⟩
  rcases hp with ⟨rfl, V', hsim, hst⟩ | ⟨_, hz, _⟩
  · refine ⟨rfl, ⟨V', T', U, h1.turn hk hst hT hsim g.wf (by have := g.gv; omega) (by omega), fun x hx => ?_, fun x hx => ⟨fun hm => ?_, (h3 x hx).2.1, Nat.lt_of_lt_of_le (h3 x hx).2.2.1 hk.size, (h3 x hx).2.2.2⟩, h4.new hk h2⟩, T, fun x hx => (h3 x hx).1, hk⟩
    · rcases hT x hx with h5 | h5
      · exact h2 x h5
      · have := h4.size; omega
    · rcases hT x hm with h5 | h5
      · exact (h3 x hx).1 h5
      · have := (h3 x hx).2.2.1; omega
  · cases hz
theorem Df.kept {mb : Nat} {v : Value} {T : List Nat} {w' : World} (h : Df w mb n given v E M) (k : Kept T w w') (hT : ∀ x ∈ M, x ∉ T) : Df w' mb n given v E M :=
  ⟨h.1.kept k (hT _ h.2.1) (fun q hq => hT _ (h.2.2 q hq)), h.2⟩
end
end
end Go.Proofs.YtncdfaocemfgfaaGreatDoor
