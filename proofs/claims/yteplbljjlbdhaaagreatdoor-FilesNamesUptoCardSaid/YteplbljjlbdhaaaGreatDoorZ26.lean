/- Walks and lemmas on the program of this seat, used by its statements; each theorem bears its own conditions. -/
import Derived.Test.YteplbljjlbdhaaaGreatDoorZ25
import Derived.Shelf.Spec.SlicesInsertGrow
namespace Go.Proofs.YteplbljjlbdhaaaGreatDoor
open Go.RowKit
set_option linter.unusedVariables false
set_option linter.unusedSimpArgs false
set_option linter.unusedSectionVars false
set_option maxHeartbeats 16000000
set_option maxRecDepth 100000
theorem run_copy_many (w : World) (dT sT ty elem : TypeId) (size b o dLen dCap : Nat) (a : Addr) (sLen sCap m : Nat) (cs : List Value)
  (hu : Tryz.prog.underlying dT = some (.slice elem)) (hs : (Tryz.prog.info? elem).map (·.size) = some size) (hm : Nat.min sLen dLen = m) (hn : cs.length = m * size)
  (hsrc : ∀ j v, cs[j]? = some v → w.cell? (a.add j) = some v) (hc : ∀ j, j < cs.length → (w.cell? ⟨b, o + j, none⟩).isSome = true) (hf : ∀ j, j < cs.length → w.frozen? ⟨b, o + j, none⟩ = false) (h1 : ∀ v ∈ cs, v.oneCell' = true) :
  (Builtin.copy_ #[dT, sT] ty #[.slice (some ⟨b, o, none⟩) dLen dCap, .slice (some a) sLen sCap]).run Tryz.prog w = .ok (goInt m) (w.setCells b o cs) := by
 have hl := run_loadCells_list (P := Tryz.prog) w a cs hsrc
 have hst := run_storeCells_cells (P := Tryz.prog) b o cs 0 w (by simpa using hc) (by simpa using hf) h1
 cases hq : Tryz.prog.info? elem with
 | none => simp [hq] at hs
 | some i =>
  have hi : i.size = size := by simpa [hq] using hs
  simp [Builtin.copy_, run_underlying hu, Builtin.lenOf, Builtin.firstCells, sizeOf, typeInfo, hq, hi, hm, ← hn, hl, hst]
theorem ent_info : (Tryz.prog.info? 113).map (fun i => (i.zero, i.size, i.bytes)) = some (some (.agg #[S [], I 0]), 2, 24) := by kernel_rfl
theorem enCells_one (l : List En) : ∀ u ∈ enCells l, u.oneCell' = true := by
 intro u hu
 obtain ⟨s, _, hs⟩ := List.mem_flatMap.1 hu
 simp at hs
 rcases hs with rfl | rfl <;> rfl
theorem enCells_append (a b : List En) : enCells (a ++ b) = enCells a ++ enCells b := by unfold enCells; rw [List.flatMap_append]
theorem enCells_at (l : List En) : ∀ (i : Nat) (hi : i < l.length), (enCells l)[i * 2]? = some (S l[i].1) ∧ (enCells l)[i * 2 + 1]? = some (I l[i].2) := by
 induction l with
 | nil => intro i hi; simp at hi
 | cons x l ih =>
  intro i hi
  cases i with
  | zero => exact ⟨rfl, rfl⟩
  | succ i =>
   obtain ⟨h1, h2⟩ := ih i (by simpa using hi)
   refine ⟨?_, ?_⟩
   ·show (S x.1 :: I x.2 :: enCells l)[(i + 1) * 2]? = _
    rw [show (i + 1) * 2 = i * 2 + 1 + 1 by omega]
    simpa using h1
   ·show (S x.1 :: I x.2 :: enCells l)[(i + 1) * 2 + 1]? = _
    rw [show (i + 1) * 2 + 1 = i * 2 + 1 + 1 + 1 by omega]
    simpa using h2
theorem enCells_drop (l : List En) : ∀ i, (enCells l).drop (i * 2) = enCells (l.drop i) := by
 induction l with
 | nil => intro i; simp [enCells]
 | cons x l ih =>
  intro i
  cases i with
  | zero => rfl
  | succ i =>
   show (S x.1 :: I x.2 :: enCells l).drop ((i + 1) * 2) = _
   rw [show (i + 1) * 2 = i * 2 + 1 + 1 by omega]
   simpa using ih i
theorem enCells_take (l : List En) : ∀ i, (enCells l).take (i * 2) = enCells (l.take i) := by
 induction l with
 | nil => intro i; simp [enCells]
 | cons x l ih =>
  intro i
  cases i with
  | zero => simp [enCells]
  | succ i =>
   show (S x.1 :: I x.2 :: enCells l).take ((i + 1) * 2) = S x.1 :: I x.2 :: enCells (l.take i)
   rw [show (i + 1) * 2 = i * 2 + 1 + 1 by omega]
   simp [ih i]
theorem append_tt (w : World) (ty ty' : TypeId) (v x : Value) : (Builtin.append_ #[87, 86] ty #[v, x]).run Tryz.prog w = (Builtin.append_ #[87, 87] ty' #[v, x]).run Tryz.prog w := by
 cases v <;> simp [Builtin.append_, run_underlying Tryz.underlying87, run_underlying Tryz.underlying86]
theorem EnsAt.cells {w : World} {b : Nat} {l : List En} (h : ∀ (i : Nat) (hi : i < l.length), w.cell? ⟨b, i * 2, none⟩ = some (S l[i].1) ∧ w.cell? ⟨b, i * 2 + 1, none⟩ = some (I l[i].2)) (j : Nat) (u : Value) (hu : (enCells l)[j]? = some u) : w.cell? ⟨b, j, none⟩ = some u := by
 have hj := (List.getElem?_eq_some_iff.1 hu).1
 rw [enCells_len] at hj
 have hk : j / 2 < l.length := by omega
 obtain ⟨q1, q2⟩ := enCells_at l (j / 2) hk
 obtain ⟨d1, d2⟩ := h (j / 2) hk
 rcases Nat.mod_two_eq_zero_or_one j with hm | hm
 ·rw [show j / 2 * 2 = j by omega] at q1 d1
  rw [q1] at hu; rw [d1]; exact hu
 ·rw [show j / 2 * 2 + 1 = j by omega] at q2 d2
  rw [q2] at hu; rw [d2]; exact hu
abbrev EnOwn (w : World) (lo : Nat) (v : Value) (l : List En) : Prop := w.ownsRow lo 113 2 v l.length (enCells l)
theorem EnOwn.at {w : World} {lo : Nat} {v : Value} {l : List En} (h : EnOwn w lo v l) : EnsAt w v l := by
 rcases h.2 with ⟨hv, h0⟩ | ⟨g, c, cur, hv, hb, hg, hn, hc, hsz, ht⟩
 ·have : l = [] := List.length_eq_zero_iff.1 h0
  subst this
  rw [hv]
  exact EnsAt.nil w
 ·refine ⟨some ⟨g, 0, none⟩, c, g, hv, hn, fun _ => rfl, fun i hi => ?_⟩
  obtain ⟨q1, q2⟩ := enCells_at l i hi
  rw [cell_at hg, cell_at hg]
  have hcell : ∀ j, j < l.length * 2 → cur[j]? = (enCells l)[j]? := by
   intro j hj
   have := congrArg (fun l => l[j]?) ht
   rw [List.getElem?_take_of_lt hj, Array.getElem?_toList] at this
   exact this
  rw [hcell _ (by omega), hcell _ (by omega)]
  exact ⟨q1, q2⟩
theorem eclone_any (w : World) (v : Value) (l : List En) (hv : EnsAt w v l) (hs : l.length ≤ 1000) :
    Calls Tryz.prog 95 #[v] w fun e w' => (∃ v', e = .returned v' ∧ EnOwn w' w.heap.size v' l) ∧ Kept [] w w' := by
  obtain ⟨p, c, b, rfl, hcap, hp, hcl⟩ := hv
  obtain ⟨i0, hi, hz0, hz1, hz2⟩ := info_parts ent_info
  have hq := fun (w : World) (a : Option Addr) (n c n' c' : Nat) => Lib.run_eql_slice_nil (P := Tryz.prog) w 87 113 a n c n' c' Tryz.underlying87
  by_cases hn : l = []
  · subst hn
    cases p with
    | none =>
      clear hcl hp
      go_enter Tryz.func95, Tryz.ntmps95
      go_wp2_with (fail)
      go_ret
      exact ⟨⟨_, rfl, ⟨rfl, .inl ⟨rfl, rfl⟩⟩⟩, Kept.refl _ _⟩
    | some a =>
      clear hcl hp
      have happ := fun (W : World) ty (g : Nat) (a : Addr) (c : Nat) => (show (Builtin.append_ #[87, 87] ty #[.slice (some ⟨g, 0, none⟩) 0 0, .slice (some a) 0 c]).run Tryz.prog W = .ok (.slice (some ⟨g, 0, none⟩) 0 0) W from by simp [Builtin.append_, run_underlying Tryz.underlying87, sizeOf, typeInfo, hi, Builtin.lenOf, Builtin.firstCells, storeCells, loadCells, loadCellsFrom])
      go_enter Tryz.func95, Tryz.ntmps95
      go_wp2_with (first
        | (at_builtin; refine Lib.wpList_append_run _ rfl _ _ _ _ rfl _ _ rfl rfl _ _ (happ _ _ _ _ _) ?_))
      go_ret
      refine ⟨⟨_, rfl, ⟨rfl, .inr ⟨w.heap.size, 0, #[], rfl, Nat.le_refl _, heap_new w _, Nat.le_refl _, Nat.zero_le _, rfl, rfl⟩⟩⟩, (Kept.refl _ _).alloc _⟩
  · have hpe := hp hn
    subst hpe
    have h1 : 1 ≤ l.length := by cases l with
      | nil => exact absurd rfl hn
      | cons _ _ => simp
    have hsrc : Hid (∀ j u, (enCells l)[j]? = some u → (w.alloc (.cells #[] 113)).cell? ((⟨b, 0, none⟩ : Addr).add j) = some u) := Lib.hid fun j u hu => by
      rw [Addr.add_lit, Nat.zero_add]
      exact Lib.cell?_alloc_some _ (EnsAt.cells hcl j u hu)
    have H1 := Lib.hid (And.intro h1 hs)
    clear hcl h1 hs hp hn
    go_enter Tryz.func95, Tryz.ntmps95
    go_wp2_with (first
      | (at_builtin
         refine wpList_append_lies _ rfl (.tmp 5) (.tmp 6) _ rfl w.heap.size 113 i0 (.agg #[S [], I 0]) 2 24 Tryz.underlying87 hi hz0 hz1 hz2 rfl (by decide) (.slice (some ⟨w.heap.size, 0, none⟩) 0 0) 0 [] rfl ⟨rfl, .inr ⟨w.heap.size, 0, #[], rfl, Nat.le_refl _, heap_new w _, Nat.le_refl _, Nat.zero_le _, rfl, rfl⟩⟩ ⟨b, 0, none⟩ l.length c (enCells l) rfl (enCells_len l) hsrc.out (enCells_one l) (by have := H1.out; omega) (by have := H1.out; unfold maxLen; omega) (by have := H1.out; omega) (by rw [World.size_alloc]; omega) _ rfl ?_
         intro g cap wa own1 gr1 hat hlt
         have kg := kept_grown gr1
         have HA := Lib.hid (And.intro own1 (And.intro hat kg))
         clear own1 gr1 hat hlt kg))
    go_ret
    obtain ⟨own1, hat, kg⟩ := HA.out
    rw [Nat.zero_add] at *
    rw [List.nil_append] at own1
    refine ⟨⟨_, rfl, own1⟩, ((Kept.refl [] w).alloc _).new kg ?_⟩
    intro x hx
    have : x = w.heap.size := by simpa [Value.ownBlock] using hx
    omega
theorem shape_at {w : World} {b : Nat} {cs : Array Value} {t : TypeId} (h : w.heap[b]? = some (.cells cs t (0, 0))) : w.shape? b = some (t, cs.size) := by unfold World.shape?; rw [h]
theorem ins_cells (l : List En) (x : En) (i : Nat) (hi : i ≤ l.length) : enCells (l.take i ++ x :: l.drop i) = (enCells l).take (i * 2) ++ (S x.1 :: I x.2 :: (enCells l).drop (i * 2)) := by
 rw [enCells_append, enCells_take, enCells_drop]
 rfl
theorem ins_len (l : List En) (x : En) (i : Nat) (hi : i ≤ l.length) : (l.take i ++ x :: l.drop i).length = l.length + 1 := by simp; omega
theorem einsert_end (w : World) (lo : Nat) (v : Value) (l : List En) (hv : EnOwn w lo v l) (x : En) (vb : Nat) (hx : w.heap[vb]? = some (.cells #[S x.1, I x.2] 113 (0, 0))) (hlo : lo ≤ w.heap.size) (hs : l.length ≤ 1000) (T : List Nat) (hT : v.ownBlock.toList = T) :
  Calls Tryz.prog 96 #[v, I l.length, .slice (some ⟨vb, 0, none⟩) 1 1] w fun e w' => (∃ v', e = .returned v' ∧ EnOwn w' lo v' (l ++ [x])) ∧ Kept T w w' := by
 obtain ⟨i0, hi, hz0, hz1, hz2⟩ := info_parts ent_info
 have hsrc : Hid (∀ j u, (enCells [x])[j]? = some u → w.cell? ((⟨vb, 0, none⟩ : Addr).add j) = some u) := Lib.hid fun j u hu => by
  rw [Addr.add_lit, Nat.zero_add, cell_at hx]
  simpa [enCells] using hu
 have HV := Lib.hid (And.intro hv (And.intro hs hlo))
 obtain ⟨k, hk⟩ : ∃ k, l.length = k := ⟨_, rfl⟩
 have HK := Lib.hid hk
 have hform : ∃ p c, v = .slice p k c ∧ k ≤ c := by
  rcases hv.2 with ⟨hv, h0⟩ | ⟨g, c, cur, hv, _, _, hn, _⟩
  ·exact ⟨none, 0, by rw [hv, ← hk, h0], by omega⟩
  ·exact ⟨_, c, by rw [hv, hk], by omega⟩
 obtain ⟨p, c, rfl, hkc⟩ := hform
 have hkI : (k : Int) ≤ 1000 := by omega
 rw [hk]
 clear hv hx hs hlo hk
 obtain ⟨g, cap, wa, hrun, own1, gr1, hat, hlt⟩ := run_append_lies (P := Tryz.prog) w 87 87 lo 113 i0 (.agg #[S [], I 0]) 2 24 Tryz.underlying87 hi hz0 hz1 hz2 rfl (by decide) _ l.length (enCells l) HV.out.1 ⟨vb, 0, none⟩ 1 1 (enCells [x]) rfl hsrc.out (enCells_one [x]) (by omega) (by have := HV.out; unfold maxLen; omega) (by have := HV.out; omega) HV.out.2.2 _ rfl
 have hr := fun ty => (append_tt w ty 87 (.slice p k c) (.slice (some ⟨vb, 0, none⟩) 1 1)).trans hrun
 have kg := kept_grown gr1
 rw [hT] at kg
 have HA := Lib.hid (And.intro own1 (And.intro hat kg))
 clear own1 gr1 hat hlt kg hrun
 go_enter Tryz.func96, Tryz.ntmps96
 go_wp2_with (first
  | (at_builtin; refine Lib.wpList_append_run _ rfl _ _ _ _ rfl _ _ rfl rfl _ _ (hr _) ?_))
 all_goals
  go_ret
  obtain ⟨own1, hat, kg⟩ := HA.out
  refine ⟨⟨_, rfl, ?_⟩, kg⟩
  show World.ownsRow _ _ _ _ _ (l ++ [x]).length (enCells (l ++ [x]))
  rw [enCells_append, List.length_append]
  exact own1
theorem einsert_room (w : World) (lo : Nat) (l : List En) (g c : Nat) (cur : Array Value) (hg : w.heap[g]? = some (.cells cur 113 (0, 0))) (hlog : lo ≤ g) (hcm : c ≤ maxLen) (hsz : cur.size = c * 2)
  (htk : cur.toList.take (l.length * 2) = enCells l) (i : Nat) (hi : i < l.length) (hroom : l.length + 1 ≤ c) (x : En) (vb : Nat) (hx : w.heap[vb]? = some (.cells #[S x.1, I x.2] 113 (0, 0))) (hgv : vb ≠ g) (hs : l.length ≤ 1000) :
  Calls Tryz.prog 96 #[.slice (some ⟨g, 0, none⟩) l.length c, I i, .slice (some ⟨vb, 0, none⟩) 1 1] w fun e w' => (∃ v', e = .returned v' ∧ EnOwn w' lo v' (l.take i ++ x :: l.drop i)) ∧ Kept [g] w w' := by
 obtain ⟨i0, hi0, hz0, hz1, hz2⟩ := info_parts ent_info
 have hsz2 : (Tryz.prog.info? 113).map (·.size) = some 2 := by rw [hi0]; simp [hz1]
 obtain ⟨k, hk⟩ : ∃ k, l.length = k := ⟨_, rfl⟩
 have hcell : ∀ j, j < k * 2 → cur[j]? = (enCells l)[j]? := by
  intro j hj
  have := congrArg (fun l => l[j]?) htk
  rw [hk, List.getElem?_take_of_lt hj, Array.getElem?_toList] at this
  exact this
 have hlen : (enCells l).length = k * 2 := by rw [enCells_len, hk]
 obtain ⟨CS, hCS⟩ : ∃ CS, enCells l = CS := ⟨_, rfl⟩
 have hone : ∀ u ∈ CS, u.oneCell' = true := by rw [← hCS]; exact enCells_one l
 have hfin := ins_cells l x i (by omega)
 have hfl := ins_len l x i (by omega)
 rw [hCS] at hcell hlen hfin
 have hdl : (CS.drop (i * 2)).length = (k - i) * 2 := by rw [List.length_drop, hlen]; omega
 have hov : ∀ lb cb, (callFunc 126 #[.slice (some ⟨vb, 0, none⟩) 1 1, .slice (some ⟨g, (i + 1) * 2, none⟩) lb cb]).run Tryz.prog w = .ok (.value (.bool false)) w := fun lb cb => by
  rw [run_callFunc_extern Tryz.func126 (by kernel_rfl) (by kernel_rfl) (by kernel_rfl) (e := Extern.SlicesOverlaps.overlaps #[86, 86] #[4]) (by kernel_rfl),
   Lib.run_overlaps_apart w 86 4 113 Tryz.underlying86 2 (fun w => by kernel_rfl) ⟨vb, 0, none⟩ ⟨g, (i + 1) * 2, none⟩ 1 1 lb cb hgv _ _ _ _ (shape_at hx) (shape_at hg) (by rw [hsz]; omega) (free_at hx _) (free_at hx _)]
  rfl
 have hcp1 : ∀ ty dc sc, (Builtin.copy_ #[87, 87] ty #[.slice (some ⟨g, (i + 1) * 2, none⟩) (k - i) dc, .slice (some ⟨g, i * 2, none⟩) (k + 1 - i) sc]).run Tryz.prog w.drew = .ok (goInt ((k - i : Nat) : Int)) (w.drew.setCells g ((i + 1) * 2) (CS.drop (i * 2))) := fun ty dc sc =>
  run_copy_many w.drew _ _ ty 113 2 g ((i + 1) * 2) (k - i) dc ⟨g, i * 2, none⟩ (k + 1 - i) sc (k - i) (CS.drop (i * 2)) Tryz.underlying87 hsz2 (by simp only [Nat.min_def]; split <;> omega) hdl
   (fun j v hj => by
    have hj2 := (List.getElem?_eq_some_iff.1 hj).1
    rw [Addr.add_lit]
    show w.cell? _ = _
    rw [cell_at hg, hcell _ (by omega)]
    rwa [List.getElem?_drop] at hj)
   (fun j hj => by
    show (w.cell? _).isSome = true
    rw [cell_at hg, Array.getElem?_eq_getElem (by omega)]
    rfl) (fun j hj => free_at (w := w) hg _) (fun v hv => hone v (List.mem_of_mem_drop hv))
 obtain ⟨W1, hW1⟩ : ∃ W1, W1 = w.drew.setCells g ((i + 1) * 2) (CS.drop (i * 2)) := ⟨_, rfl⟩
 obtain ⟨cur1, r1, r2, r3, r4⟩ := setCells_row g 113 (CS.drop (i * 2)) ((i + 1) * 2) cur w.drew hg (by rw [hdl, hsz]; omega)
 rw [← hW1] at hcp1 r1 r4
 have hxW1 : W1.heap[vb]? = some (.cells #[S x.1, I x.2] 113 (0, 0)) := by
  exact r4.at (w := w.drew) hx (by simpa using hgv)
 have hcp2 : ∀ (W : World), (∀ x, W.cell? x = W1.cell? x) → (∀ x, W.frozen? x = W1.frozen? x) → ∀ ty dc, (Builtin.copy_ #[87, 86] ty #[.slice (some ⟨g, i * 2, none⟩) (k + 1 - i) dc, .slice (some ⟨vb, 0, none⟩) 1 1]).run Tryz.prog W = .ok (goInt 1) (W.setCells g (i * 2) [S x.1, I x.2]) := fun W hWc hWf ty dc =>
  run_copy_many W _ _ ty 113 2 g (i * 2) (k + 1 - i) dc ⟨vb, 0, none⟩ 1 1 1 [S x.1, I x.2] Tryz.underlying87 hsz2 (by simp only [Nat.min_def]; split <;> omega) rfl
   (fun j v hj => by
    rw [Addr.add_lit, hWc, Nat.zero_add, cell_at hxW1]
    simpa using hj)
   (fun j hj => by
    rw [hWc, cell_at r1, Array.getElem?_eq_getElem (by rw [r2, hsz]; simp at hj; omega)]
    rfl) (fun j hj => by rw [hWf]; exact free_at r1 _) (fun v hv => by simp at hv; rcases hv with rfl | rfl <;> rfl)
 obtain ⟨cur2, q1, q2, q3, q4⟩ := setCells_row g 113 [S x.1, I x.2] (i * 2) cur1 W1 r1 (by rw [r2, hsz]; simp; omega)
 have FIN : Hid (EnOwn (W1.setCells g (i * 2) [S x.1, I x.2]) lo (.slice (some ⟨g, 0, none⟩) (k + 1) c) (l.take i ++ x :: l.drop i) ∧ Kept [g] w (W1.setCells g (i * 2) [S x.1, I x.2])) := Lib.hid ⟨⟨enCells_len _, .inr ⟨g, c, cur2, by rw [hfl, hk], hlog, q1, by rw [hfl]; omega, hcm, by rw [q2, r2, hsz], by
  rw [hfl, hk, hfin]
  apply List.ext_getElem?
  intro j
  by_cases hj : j < (k + 1) * 2
  ·rw [List.getElem?_take_of_lt hj, Array.getElem?_toList, q3, r3, List.getElem?_append]
   have hlt : (CS.take (i * 2)).length = i * 2 := by rw [List.length_take, hlen]; omega
   rw [hlt]
   by_cases h1 : j < i * 2
   ·rw [if_neg (by omega), if_neg (by omega), if_pos h1, List.getElem?_take_of_lt h1, hcell _ (by omega)]
   ·rw [if_neg h1]
    by_cases h2 : j < i * 2 + 2
    ·rw [if_pos ⟨by omega, by simpa using h2⟩]
     rcases (by omega : j - i * 2 = 0 ∨ j - i * 2 = 1) with h | h <;> rw [h] <;> rfl
    ·rw [if_neg (by simp; omega), if_pos ⟨by omega, by rw [hdl]; omega⟩, show j - i * 2 = (j - (i + 1) * 2) + 1 + 1 by omega]
     simp
  ·rw [List.getElem?_eq_none (by simp; omega), List.getElem?_eq_none (by simp [hlen]; omega)]⟩⟩, ((Kept.refl [g] w).drew).trans' (r4.trans' q4)⟩
 have HW1 := Lib.hid hW1
 have hiI : (i : Int) < k := by omega
 have hkI : (k : Int) ≤ 1000 := by omega
 have hcI : (k : Int) + 1 ≤ c := by omega
 have hcz : (c : Int) ≤ 9223372036854775807 := by unfold maxLen at hcm; omega
 have hne : ((i : Int) == (k : Int)) = false := by simp; omega
 have hgt : decide ((c : Int) < (k : Int) + 1) = false := by simp; omega
 have hb1 : (0 : Int) ≤ (i : Int) + 1 := by omega
 have hb2 : ¬ (c = i + 1) := by omega
 have hb3 : (i : Int) ≤ (k : Int) + 1 := by omega
 have hb4 : ¬ (c = i) := by omega
 have hb5 : (i : Int) + 1 ≤ (k : Int) + 1 := by omega
 have htn : ((i : Int) + 1).toNat = i + 1 := by omega
 have hw1 : IntKind.i64.wrap ((i : Int) + 1) = (i : Int) + 1 := by rw [IntKind.wrap_i64]; omega
 rw [hk] at *
 clear hcell hlen hfin hfl hdl hone hCS htk r1 r2 r3 r4 q1 q2 q3 q4 hxW1 hg hx hk hsz hcm hlog hroom hW1 hgv hi hsz2 hi0 hz0 hz1 hz2
 go_enter Tryz.func96, Tryz.ntmps96
 go_wp2_with (simp only [hov])
 go_region_law (refine step_copy_runI rfl _ _ 87 87 rfl _ _ (by simp [Act.eval, Act.put]) (by simp [Act.eval, Act.put]) (hcp1 _ _ _) ?_)
 go_wp2_with (at_builtin; refine wpList_copy_runI _ rfl _ _ 87 86 rfl _ _ rfl rfl (hcp2 _ (fun _ => rfl) (fun _ => rfl) _ _) ?_)
 all_goals
  go_ret
  exact ⟨⟨_, rfl, FIN.out.1⟩, FIN.out.2⟩
theorem zero_ent_size (n : Nat) : (Builtin.zeroCells (Value.agg #[S [], I 0]).cells n).size = n * 2 := by
 simp [Builtin.zeroCells, Value.cells]
theorem einsert_grow (w : World) (lo : Nat) (l : List En) (g c : Nat) (cur : Array Value) (hg : w.heap[g]? = some (.cells cur 113 (0, 0))) (hlo : lo ≤ w.heap.size) (hsz : cur.size = c * 2)
    (htk : cur.toList.take (l.length * 2) = enCells l) (i : Nat) (hi : i < l.length) (hc : l.length ≤ c) (hroom : c < l.length + 1) (x : En) (vb : Nat) (hx : w.heap[vb]? = some (.cells #[S x.1, I x.2] 113 (0, 0))) (hgv : vb ≠ g) (hs : l.length ≤ 1000) :
    Calls Tryz.prog 96 #[.slice (some ⟨g, 0, none⟩) l.length c, I i, .slice (some ⟨vb, 0, none⟩) 1 1] w fun e w' => (∃ v', e = .returned v' ∧ EnOwn w' lo v' (l.take i ++ x :: l.drop i)) ∧ Kept [] w w' := by
  obtain ⟨i0, hi0, hz0, hz1, hz2⟩ := info_parts ent_info
  have hsz2 : (Tryz.prog.info? 113).map (·.size) = some 2 := by rw [hi0]; simp [hz1]
  obtain ⟨k, hk⟩ : ∃ k, l.length = k := ⟨_, rfl⟩
  have hck : c = k := by omega
  have hcell : ∀ j, j < k * 2 → cur[j]? = (enCells l)[j]? := by
    intro j hj
    have := congrArg (fun l => l[j]?) htk
    rw [hk, List.getElem?_take_of_lt hj, Array.getElem?_toList] at this
    exact this
  have hlen : (enCells l).length = k * 2 := by rw [enCells_len, hk]
  obtain ⟨CS, hCS⟩ : ∃ CS, enCells l = CS := ⟨_, rfl⟩
  have hone : ∀ u ∈ CS, u.oneCell' = true := by rw [← hCS]; exact enCells_one l
  have hfin := ins_cells l x i (by omega)
  have hfl := ins_len l x i (by omega)
  rw [hCS] at hcell hlen hfin
  have hdl : (CS.drop (i * 2)).length = (k - i) * 2 := by rw [List.length_drop, hlen]; omega
  have htl : (CS.take (i * 2)).length = i * 2 := by rw [List.length_take, hlen]; omega
  have hgw : g < w.heap.size := by
    rcases Nat.lt_or_ge g w.heap.size with h | h
    · exact h
    · rw [Array.getElem?_eq_none h] at hg; cases hg
  have hvw : vb < w.heap.size := by
    rcases Nat.lt_or_ge vb w.heap.size with h | h
    · exact h
    · rw [Array.getElem?_eq_none h] at hx; cases hx
  have hsrc0 : ∀ j v, CS[j]? = some v → w.cell? ⟨g, j, none⟩ = some v := fun j v hj => by
    have hj2 := (List.getElem?_eq_some_iff.1 hj).1
    rw [cell_at hg, hcell _ (by omega)]
    exact hj
  have hold : (Builtin.firstCells i0.size i (.slice (some ⟨g, 0, none⟩) i c)).run Tryz.prog w.drew = .ok (CS.take (i * 2)).toArray w.drew := by
    rw [hz1]
    exact run_firstCells_some w.drew 2 i ⟨g, 0, none⟩ i c (CS.take (i * 2)) htl (fun j v hj => by
      rw [Addr.add_lit, Nat.zero_add]
      rw [List.getElem?_take] at hj
      split at hj
      · exact hsrc0 j v hj
      · cases hj)
  obtain ⟨G, hG⟩ : ∃ G, G = grownCap w (k + 1) c 113 := ⟨_, rfl⟩
  have hGn : k + 1 ≤ G := by rw [hG]; exact grownCap_ge w _ _ _
  have hGm : G ≤ maxLen := by rw [hG]; exact grownCap_le_maxLen w (k + 1) c _ (by unfold maxLen; omega)
  obtain ⟨ROW, hROW⟩ : ∃ ROW : Array Value, ROW = (CS.take (i * 2)).toArray ++ Builtin.zeroCells (Value.agg #[S [], I 0]).cells (k + 1 - i) ++ Builtin.zeroCells (Value.agg #[S [], I 0]).cells (G - (k + 1)) := ⟨_, rfl⟩
  have hrz : ∀ ty, (Builtin.append_ #[87, 3] ty #[.slice (some ⟨g, 0, none⟩) i c, .int .i64 ((k : Int) + 1 - (i : Int))]).run Tryz.prog w =
      .ok (.slice (some ⟨w.heap.size, 0, none⟩) (k + 1) G) (w.drew.alloc (.cells ROW 113)) := fun ty => by
    have hik : i + (k + 1 - i) = k + 1 := by omega
    have h := Lib.run_append_grow_zeros w 87 3 ty 113 i0 _ .i64 .i64 Tryz.underlying87 Tryz.underlying3 hi0 hz0 (some ⟨g, 0, none⟩) i c (CS.take (i * 2)) hold (k + 1 - i) (by omega) (by rw [hz1]; omega) (by omega) (by omega) (by rw [hz2]; omega) (by rw [hz2, hik]; exact growslice_fits (by omega) (by omega))
    rw [hik, ← hG, ← hROW] at h
    rw [show (k : Int) + 1 - (i : Int) = ((k + 1 - i : Nat) : Int) by omega]
    exact h
  have hRs : ROW.size = G * 2 := by
    rw [hROW, Array.size_append, Array.size_append, zero_ent_size, zero_ent_size, List.size_toArray, htl]
    omega
  have hRi : ∀ j, j < i * 2 → ROW[j]? = CS[j]? := by
    intro j hj
    rw [hROW, Array.getElem?_append_left (by rw [Array.size_append, List.size_toArray, htl]; omega), Array.getElem?_append_left (by rw [List.size_toArray, htl]; omega), List.getElem?_toArray, List.getElem?_take_of_lt hj]
  obtain ⟨W1, hW1⟩ : ∃ W1, W1 = (w.alloc (.cells ROW 113)).drew := ⟨_, rfl⟩
  have h1 : W1.heap[w.heap.size]? = some (.cells ROW 113 (0, 0)) := by rw [hW1]; exact heap_new w _
  have k1 : Kept [] w W1 := by rw [hW1]; exact ((Kept.refl [] w).alloc _).drew
  have hxW1 := k1.at hx (by simp)
  have hgW1 := k1.at hg (by simp)
  have hcpA : ∀ (W : World), (∀ x, W.cell? x = W1.cell? x) → (∀ x, W.frozen? x = W1.frozen? x) → ∀ ty dc, (Builtin.copy_ #[87, 86] ty #[.slice (some ⟨w.heap.size, i * 2, none⟩) (k + 1 - i) dc, .slice (some ⟨vb, 0, none⟩) 1 1]).run Tryz.prog W = .ok (goInt 1) (W.setCells w.heap.size (i * 2) [S x.1, I x.2]) := fun W hWc hWf ty dc =>
    run_copy_many W _ _ ty 113 2 w.heap.size (i * 2) (k + 1 - i) dc ⟨vb, 0, none⟩ 1 1 1 [S x.1, I x.2] Tryz.underlying87 hsz2 (by simp only [Nat.min_def]; split <;> omega) rfl
      (fun j v hj => by
        rw [Addr.add_lit, hWc, Nat.zero_add, cell_at hxW1]
        simpa using hj)
      (fun j hj => by
        rw [hWc, cell_at h1, Array.getElem?_eq_getElem (by rw [hRs]; simp at hj; omega)]
        rfl) (fun j hj => by rw [hWf]; exact free_at h1 _) (fun v hv => by simp at hv; rcases hv with rfl | rfl <;> rfl)
  obtain ⟨W2, hW2⟩ : ∃ W2, W2 = (W1.setCells w.heap.size (i * 2) [S x.1, I x.2]).drew := ⟨_, rfl⟩
  obtain ⟨cur2, q1, q2, q3, q4⟩ := setCells_row w.heap.size 113 [S x.1, I x.2] (i * 2) ROW W1 h1 (by rw [hRs]; simp; omega)
  replace q1 : W2.heap[w.heap.size]? = some (.cells cur2 113 (0, 0)) := by rw [hW2]; exact q1
  replace q4 : Kept [w.heap.size] W1 W2 := by rw [hW2]; exact q4.drew
  have hgW2 := q4.at hgW1 (by simp; omega)
  have hcpB : ∀ (W : World), (∀ x, W.cell? x = W2.cell? x) → (∀ x, W.frozen? x = W2.frozen? x) → ∀ ty dc sc, (Builtin.copy_ #[87, 87] ty #[.slice (some ⟨w.heap.size, (i + 1) * 2, none⟩) (k - i) dc, .slice (some ⟨g, i * 2, none⟩) (k - i) sc]).run Tryz.prog W = .ok (goInt ((k - i : Nat) : Int)) (W.setCells w.heap.size ((i + 1) * 2) (CS.drop (i * 2))) := fun W hWc hWf ty dc sc =>
    run_copy_many W _ _ ty 113 2 w.heap.size ((i + 1) * 2) (k - i) dc ⟨g, i * 2, none⟩ (k - i) sc (k - i) (CS.drop (i * 2)) Tryz.underlying87 hsz2 (by simp only [Nat.min_def]; split <;> omega) hdl
      (fun j v hj => by
        have hj2 := (List.getElem?_eq_some_iff.1 hj).1
        rw [Addr.add_lit, hWc, cell_at hgW2, hcell _ (by omega)]
        rwa [List.getElem?_drop] at hj)
      (fun j hj => by
        rw [hWc, cell_at q1, Array.getElem?_eq_getElem (by rw [q2, hRs]; omega)]
        rfl) (fun j hj => by rw [hWf]; exact free_at q1 _) (fun v hv => hone v (List.mem_of_mem_drop hv))
  obtain ⟨cur3, p1, p2, p3, p4⟩ := setCells_row w.heap.size 113 (CS.drop (i * 2)) ((i + 1) * 2) cur2 W2 q1 (by rw [q2, hRs, hdl]; omega)
  have FIN : Hid (EnOwn (W2.setCells w.heap.size ((i + 1) * 2) (CS.drop (i * 2))) lo (.slice (some ⟨w.heap.size, 0, none⟩) (k + 1) G) (l.take i ++ x :: l.drop i) ∧ Kept [] w (W2.setCells w.heap.size ((i + 1) * 2) (CS.drop (i * 2)))) := Lib.hid ⟨⟨enCells_len _, .inr ⟨w.heap.size, G, cur3, by rw [hfl, hk], hlo, p1, by rw [hfl]; omega, hGm, by rw [p2, q2, hRs], by
    rw [hfl, hk, hfin]
    apply List.ext_getElem?
    intro j
    by_cases hj : j < (k + 1) * 2
    · rw [List.getElem?_take_of_lt hj, Array.getElem?_toList, p3, q3, List.getElem?_append, htl]
      by_cases h1 : j < i * 2
      · rw [if_neg (by omega), if_neg (by omega), if_pos h1, List.getElem?_take_of_lt h1, hRi _ h1]
      · rw [if_neg h1]
        by_cases h2 : j < i * 2 + 2
        · rw [if_neg (by omega), if_pos ⟨by omega, by simpa using h2⟩]
          rcases (by omega : j - i * 2 = 0 ∨ j - i * 2 = 1) with h | h <;> rw [h] <;> rfl
        · rw [if_pos ⟨by omega, by rw [hdl]; omega⟩, show j - i * 2 = (j - (i + 1) * 2) + 1 + 1 by omega]
          simp
    · rw [List.getElem?_eq_none (by simp; omega), List.getElem?_eq_none (by simp [hlen]; omega)]⟩⟩, k1.new ((q4.trans' p4)) (by simp)⟩
  have hgs : ¬ (g = w.heap.size) := by omega
  have HW := Lib.hid (And.intro hW1 hW2)
  have hiI : (i : Int) < k := by omega
  have hkI : (k : Int) ≤ 1000 := by omega
  have hcz : (G : Int) ≤ 9223372036854775807 := by unfold maxLen at hGm; omega
  have hne : ((i : Int) == (k : Int)) = false := by simp; omega
  have hgt : decide ((k : Int) < (k : Int) + 1) = true := by simp; omega
  have hb1 : (0 : Int) ≤ (i : Int) + 1 := by omega
  have hb2 : ¬ (G = i + 1) := by omega
  have hb4 : ¬ (G = i) := by omega
  have hb6 : ¬ (k = i) := by omega
  have hb5 : (i : Int) + 1 ≤ (k : Int) + 1 := by omega
  have hb7 : (i : Int) ≤ (k : Int) + 1 := by omega
  have hb8 : (i : Int) ≤ (k : Int) := by omega
  have htn : ((i : Int) + 1).toNat = i + 1 := by omega
  have hw1 : IntKind.i64.wrap ((i : Int) + 1) = (i : Int) + 1 := by rw [IntKind.wrap_i64]; omega
  subst hck
  rw [hk] at *
  subst hW1
  subst hW2
  clear hcell hlen hfin hfl hdl hone hCS htk q1 q2 q3 q4 p1 p2 p3 p4 h1 k1 hxW1 hgW1 hgW2 hg hx hk hsz hroom hgv hi hsz2 hi0 hz0 hz1 hz2 hsrc0 hold hRi hRs hROW hG hc hGm hgw hvw
  replace hcpA := hcpA _ (fun _ => rfl) (fun _ => rfl)
  replace hcpB := hcpB _ (fun _ => rfl) (fun _ => rfl)
  go_enter Tryz.func96, Tryz.ntmps96
  go_wp2_with (first
    | (at_builtin; refine Lib.wpList_append_run _ rfl _ _ _ _ rfl _ _ rfl rfl _ _ (hrz _) ?_)
    | (simp only [hcpA]))
  go_region_law (refine step_copy_runI rfl _ _ 87 87 rfl (.slice (some ⟨w.heap.size, (i + 1) * 2, none⟩) (c - i) (G - (i + 1))) (.slice (some ⟨g, i * 2, none⟩) (c - i) (c - i)) (by simp [Act.eval, Act.put]) (by simp [Act.eval, Act.put]) (hcpB _ _ _) ?_)
  all_goals
    go_wp2
    go_ret
    exact ⟨⟨_, rfl, FIN.out.1⟩, FIN.out.2⟩
theorem step_append_runI {ops : Array Oper} {o : Oper} {a : Act} {w : World} {K : Act → World → Prop} {Q : Exit → Act → World → Prop} {E : Prop}
  (hg : o.guard = none) (d x : Operand) (dT sT : TypeId) (hop : o.op = Op.call { callee := Callee.builtin Builtin.append, args := #[d, x], argTypes := #[dT, sT] })
  (v u : Value) (hd : a.eval d = v) (hx : a.eval x = u) {v' : Value} {w' : World} (hr : (Builtin.append_ #[dT, sT] o.type #[v, u]).run Tryz.prog w = .ok v' w') (hK : K (a.put o.dst v') w') :
  if Region.wanted o (yielded ops a.tmps) = true then Oper.wp Tryz.prog o a w K Q else E := by
 have hw : Region.wanted o (yielded ops a.tmps) = true := by simp [Region.wanted, hg]
 rw [if_pos hw]
 unfold Oper.wp
 simp [execOp, hop, resolve, invoke, builtin, hd, hx, hr, Result.andThen]
 exact hK
theorem run_append_sc (w : World) (t t' ty e : TypeId) (i : TypeInfo) (ht : Tryz.prog.underlying t = some (.slice e)) (hi : Tryz.prog.info? e = some i)
  (g sLen sCap : Nat) (a : Addr) (m c : Nat) (news : List Value) (hl : news.length = m * i.size) (hnews : ∀ j u, news[j]? = some u → w.cell? (a.add j) = some u) (h1 : ∀ u ∈ news, u.oneCell' = true)
  (hroom : sLen + m ≤ sCap) (hc : ∀ j, j < news.length → (w.cell? ⟨g, sLen * i.size + j, none⟩).isSome = true) (hf : ∀ j, j < news.length → w.frozen? ⟨g, sLen * i.size + j, none⟩ = false) :
  (Builtin.append_ #[t, t] ty #[.slice (some ⟨g, 0, none⟩) sLen sCap, .slice (some a) m c]).run Tryz.prog w =
   .ok (.slice (some ⟨g, 0, none⟩) (sLen + m) sCap) (w.setCells g (sLen * i.size) news) := by
 have hf' := run_firstCells_some (P := Tryz.prog) w i.size m a m c news hl hnews
 have hst := run_storeCells_cells (P := Tryz.prog) g (sLen * i.size) news 0 w (by simpa using hc) (by simpa using hf) h1
 simp only [Nat.add_zero] at hst
 simp [Builtin.append_, run_underlying ht, sizeOf, typeInfo, hi, Builtin.lenOf, hroom, hf', Addr.add_lit, hst]
theorem clear_ent (w : World) (ty : TypeId) (b o : Nat) (c : Nat) (hc : ∀ j, j < 2 → (w.cell? ⟨b, o + j, none⟩).isSome = true) (hf : ∀ j, j < 2 → w.frozen? ⟨b, o + j, none⟩ = false) :
  (Builtin.clear_ #[87] ty #[.slice (some ⟨b, o, none⟩) 1 c]).run Tryz.prog w = .ok (.tuple #[]) (w.setCells b o [S [], I 0]) := by
 have hv : ∀ w, (zeroValue 113).run Tryz.prog w = .ok (.agg #[S [], I 0]) w := fun w => by kernel_rfl
 have hst := run_storeCells_cells (P := Tryz.prog) b o [S [], I 0] 0 w (by simpa using hc) (by simpa using hf) (by intro v hv'; simp at hv'; rcases hv' with rfl | rfl <;> rfl)
 simp only [Nat.add_zero] at hst
 have hz : (Builtin.zeroCells (Value.agg #[S [], I 0]).cells 1).toList = [S [], I 0] := by simp [Builtin.zeroCells, Value.cells]; rfl
 simp [Builtin.clear_, run_underlying Tryz.underlying87, hv, hz, hst]
theorem edelete_any (w : World) (lo : Nat) (l : List En) (g c : Nat) (cur : Array Value) (hg : w.heap[g]? = some (.cells cur 113 (0, 0))) (hlog : lo ≤ g) (hcm : c ≤ maxLen) (hsz : cur.size = c * 2)
  (htk : cur.toList.take (l.length * 2) = enCells l) (i : Nat) (hi : i < l.length) (hc : l.length ≤ c) (hs : l.length ≤ 1000) :
  Calls Tryz.prog 94 #[.slice (some ⟨g, 0, none⟩) l.length c, I i, I (i + 1)] w fun e w' => (∃ v', e = .returned v' ∧ EnOwn w' lo v' (l.take i ++ l.drop (i + 1))) ∧ Kept [g] w w' := by
 obtain ⟨i0, hi0, hz0, hz1, hz2⟩ := info_parts ent_info
 obtain ⟨k, hk⟩ : ∃ k, l.length = k + 1 := ⟨l.length - 1, by omega⟩
 have hcell : ∀ j, j < (k + 1) * 2 → cur[j]? = (enCells l)[j]? := by
  intro j hj
  have := congrArg (fun l => l[j]?) htk
  rw [hk, List.getElem?_take_of_lt hj, Array.getElem?_toList] at this
  exact this
 have hlen : (enCells l).length = (k + 1) * 2 := by rw [enCells_len, hk]
 obtain ⟨CS, hCS⟩ : ∃ CS, enCells l = CS := ⟨_, rfl⟩
 have hone : ∀ u ∈ CS, u.oneCell' = true := by rw [← hCS]; exact enCells_one l
 have hfin : enCells (l.take i ++ l.drop (i + 1)) = CS.take (i * 2) ++ CS.drop ((i + 1) * 2) := by rw [enCells_append, ← enCells_take, ← enCells_drop, hCS]
 have hfl : (l.take i ++ l.drop (i + 1)).length = k := by simp; omega
 rw [hCS] at hcell hlen
 have hdl : (CS.drop ((i + 1) * 2)).length = (k - i) * 2 := by rw [List.length_drop, hlen]; omega
 obtain ⟨q, hq⟩ : ∃ q : Addr, q = if c = i + 1 then ⟨g, 0, none⟩ else ⟨g, (i + 1) * 2, none⟩ := ⟨_, rfl⟩
 have happ : ∀ ty, (Builtin.append_ #[87, 87] ty #[.slice (some ⟨g, 0, none⟩) i c, .slice (some q) (k - i) (c - (i + 1))]).run Tryz.prog w.drew = .ok (.slice (some ⟨g, 0, none⟩) k c) (w.drew.setCells g (i * 2) (CS.drop ((i + 1) * 2))) := fun ty => by
  have h := run_append_sc w.drew 87 87 ty 113 i0 Tryz.underlying87 hi0 g i c q (k - i) (c - (i + 1)) (CS.drop ((i + 1) * 2)) (by rw [hz1]; exact hdl)
   (fun j v hj => by
    have hj2 := (List.getElem?_eq_some_iff.1 hj).1
    rw [hq, if_neg (by omega), Addr.add_lit]
    show w.cell? _ = _
    rw [cell_at hg, hcell _ (by omega)]
    rwa [List.getElem?_drop] at hj)
   (fun v hv => hone v (List.mem_of_mem_drop hv)) (by omega)
   (fun j hj => by
    show (w.cell? _).isSome = true
    rw [cell_at hg, hz1, Array.getElem?_eq_getElem (by omega)]
    rfl) (fun j hj => free_at (w := w) hg _)
  rw [hz1, show i + (k - i) = k by omega] at h
  exact h
 obtain ⟨W1, hW1⟩ : ∃ W1, W1 = w.drew.setCells g (i * 2) (CS.drop ((i + 1) * 2)) := ⟨_, rfl⟩
 obtain ⟨cur1, r1, r2, r3, r4⟩ := setCells_row g 113 (CS.drop ((i + 1) * 2)) (i * 2) cur w.drew hg (by rw [hdl, hsz]; omega)
 rw [← hW1] at happ r1 r4
 have hcl : ∀ ty, (Builtin.clear_ #[87] ty #[.slice (some ⟨g, k * 2, none⟩) 1 (c - k)]).run Tryz.prog W1 = .ok (.tuple #[]) (W1.setCells g (k * 2) [S [], I 0]) := fun ty => clear_ent W1 ty g (k * 2) (c - k) (fun j hj => by rw [cell_at r1, Array.getElem?_eq_getElem (by omega)]; rfl) (fun j hj => free_at r1 _)
 obtain ⟨cur2, q1, q2, q3, q4⟩ := setCells_row g 113 [S [], I 0] (k * 2) cur1 W1 r1 (by rw [r2, hsz]; simp; omega)
 have FIN : Hid (EnOwn (W1.setCells g (k * 2) [S [], I 0]) lo (.slice (some ⟨g, 0, none⟩) k c) (l.take i ++ l.drop (i + 1)) ∧ Kept [g] w (W1.setCells g (k * 2) [S [], I 0])) := Lib.hid ⟨⟨enCells_len _, .inr ⟨g, c, cur2, by rw [hfl], hlog, q1, by rw [hfl]; omega, hcm, by rw [q2, r2, hsz], by
  rw [hfl, hfin]
  apply List.ext_getElem?
  intro j
  have htl : (CS.take (i * 2)).length = i * 2 := by rw [List.length_take, hlen]; omega
  by_cases hj : j < k * 2
  ·rw [List.getElem?_take_of_lt hj, Array.getElem?_toList, q3, if_neg (by omega), r3, List.getElem?_append, htl]
   by_cases h1 : j < i * 2
   ·rw [if_neg (by omega), if_pos h1, List.getElem?_take_of_lt h1, hcell _ (by omega)]
   ·rw [if_neg h1, if_pos ⟨by omega, by rw [hdl]; omega⟩]
  ·rw [List.getElem?_eq_none (by simp; omega), List.getElem?_eq_none (by simp [hlen]; omega)]⟩⟩, ((Kept.refl [g] w).drew).trans' (r4.trans' q4)⟩
 have HW1 := Lib.hid hW1
 have hiI : (i : Int) ≤ k := by omega
 have hiN : i ≤ k := by omega
 have hkI : (k : Int) ≤ 1000 := by omega
 have hcI : (k : Int) + 1 ≤ c := by omega
 have hcz : (c : Int) ≤ 9223372036854775807 := by unfold maxLen at hcm; omega
 have hne : ((i : Int) == (i : Int) + 1) = false := by simp; omega
 have hb1 : (0 : Int) ≤ (i : Int) + 1 := by omega
 have hb2 : ¬ (c = k) := by omega
 have hb5 : (i : Int) + 1 ≤ (k : Int) + 1 := by omega
 have hb6 : (i : Int) ≤ (k : Int) + 1 := by omega
 have hb7 : (k : Int) ≤ (k : Int) + 1 := by omega
 have hb8 : (i : Int) ≤ (i : Int) + 1 := by omega
 have hb9 : (i : Int) + 1 ≤ c := by omega
 have htn : ((i : Int) + 1).toNat = i + 1 := by omega
 have hb10 : (i : Int) ≤ c := by omega
 rw [hk] at *
 have hci : (k : Nat) + 1 ≤ c := by omega
 clear hcell hlen hfin hfl hdl hone hCS htk r1 r2 r3 r4 q1 q2 q3 q4 hg hk hsz hcm hlog hW1 hi hi0 hz0 hz1 hz2 hs hc
 by_cases hc1 : c = i + 1
 ·rw [if_pos hc1] at hq
  subst hq
  have hki : i = k := by omega
  subst hki
  subst hc1
  simp only [Nat.sub_self] at happ
  simp only [Nat.add_sub_cancel_left] at hcl
  go_enter Tryz.func94, Tryz.ntmps94
  go_wp2_with (fail)
  go_region_law (refine step_append_runI rfl _ _ 87 87 rfl (.slice (some ⟨g, 0, none⟩) i (i + 1)) (.slice (some ⟨g, 0, none⟩) 0 0) (by simp [Act.eval, Act.put]) (by simp [Act.eval, Act.put]) (happ _) ?_)
  all_goals
   go_wp2_with (simp only [hcl])
   go_ret
   exact ⟨⟨_, rfl, FIN.out.1⟩, FIN.out.2⟩
 ·rw [if_neg hc1] at hq
  subst hq
  go_enter Tryz.func94, Tryz.ntmps94
  go_wp2_with (fail)
  go_region_law (refine step_append_runI rfl _ _ 87 87 rfl (.slice (some ⟨g, 0, none⟩) i c) (.slice (some ⟨g, (i + 1) * 2, none⟩) (k - i) (c - (i + 1))) (by simp [Act.eval, Act.put]) (by simp [Act.eval, Act.put]) (happ _) ?_)
  all_goals
   go_wp2_with (simp only [hcl])
   go_ret
   exact ⟨⟨_, rfl, FIN.out.1⟩, FIN.out.2⟩
theorem own_block_of {w : World} {lo : Nat} {v : Value} {l : List En} (h : EnOwn w lo v l) : ∀ q ∈ v.ownBlock.toList, lo ≤ q ∧ q < w.heap.size := by
 intro q hq
 exact own_lt h q (by simpa using hq)
theorem einsert_any (w : World) (lo : Nat) (v : Value) (l : List En) (hv : EnOwn w lo v l) (i : Nat) (hi : i ≤ l.length) (x : En) (vb : Nat) (hx : w.heap[vb]? = some (.cells #[S x.1, I x.2] 113 (0, 0))) (hgv : ∀ q ∈ v.ownBlock.toList, q ≠ vb) (hlo : lo ≤ w.heap.size) (hs : l.length ≤ 1000) :
  Calls Tryz.prog 96 #[v, I i, .slice (some ⟨vb, 0, none⟩) 1 1] w fun e w' => (∃ v', e = .returned v' ∧ EnOwn w' lo v' (l.take i ++ x :: l.drop i)) ∧ Kept v.ownBlock.toList w w' := by
 by_cases hil : i = l.length
 ·subst hil
  refine (einsert_end w lo v l hv x vb hx hlo hs _ rfl).mono ?_
  rintro e w1 h
  rw [List.take_length, List.drop_length]
  exact h
 ·rcases hv.2 with ⟨_, h0⟩ | ⟨g, c, cur, rfl, hb, hg, hn, hc, hsz, ht⟩
  ·exact absurd (by rw [h0] at hi ⊢; omega) hil
  ·have hne : vb ≠ g := fun e => hgv g (by simp [Value.ownBlock]) e.symm
   have hT : (Value.slice (some ⟨g, 0, none⟩) l.length c).ownBlock.toList = [g] := rfl
   rw [hT]
   by_cases hr : l.length + 1 ≤ c
   ·exact einsert_room w lo l g c cur hg hb hc hsz ht i (by omega) hr x vb hx hne hs
   ·refine (einsert_grow w lo l g c cur hg hlo hsz ht i (by omega) hn (by omega) x vb hx hne hs).mono ?_
    rintro e w1 ⟨h1, h2⟩
    exact ⟨h1, h2.mono (by simp)⟩
theorem posE_ins {l : List En} (h : SortE l) (x : En) (hn : hasE l x.1 = false) : l.take (posE l x.1) ++ x :: l.drop (posE l x.1) = insE l x := by
 induction l with
 | nil => rfl
 | cons y t ih =>
  obtain ⟨h1, h2⟩ := List.pairwise_cons.1 h
  have hn2 : hasE t x.1 = false := by
   unfold hasE at hn ⊢
   simp only [List.any_cons, Bool.or_eq_false_iff] at hn
   exact hn.2
  unfold posE insE
  split
  ·next hl =>
   rw [List.take_succ_cons, List.drop_succ_cons, List.cons_append, ih h2 hn2]
  ·next hl =>
   rfl
def delE (l : List En) (t : Nm) : List En := l.filter fun x => decide (x.1 ≠ t)
theorem posE_del {l : List En} (h : SortE l) (t : Nm) (hn : hasE l t = true) : l.take (posE l t) ++ l.drop (posE l t + 1) = delE l t := by
 induction l with
 | nil => cases hn
 | cons y r ih =>
  obtain ⟨h1, h2⟩ := List.pairwise_cons.1 h
  by_cases hl : ltB y.1 t = true
  ·have hne := ltB_ne hl
   have hn2 : hasE r t = true := by
    unfold hasE at hn ⊢
    simp only [List.any_cons, Bool.or_eq_true] at hn
    rcases hn with hn | hn
    ·exact absurd (by simpa using hn) hne
    ·exact hn
   unfold posE delE
   rw [if_pos hl, List.take_succ_cons, List.drop_succ_cons, List.cons_append, ih h2 hn2, List.filter_cons_of_pos (by simpa using hne)]
   rfl
  ·have he : y.1 = t := by
    apply Decidable.byContradiction
    intro hne
    have hlt : ltB t y.1 = true := by
     rcases ltB_total hne with h3 | h3
     ·exact absurd h3 hl
     ·exact h3
    unfold hasE at hn
    simp only [List.any_cons, Bool.or_eq_true] at hn
    rcases hn with hn | hn
    ·exact hne (by simpa using hn)
    ·obtain ⟨z, hz, hze⟩ := List.any_eq_true.1 hn
     have hze : z.1 = t := by simpa using hze
     have := ltB_trans hlt (h1 z hz)
     rw [hze, ltB_irrefl] at this
     cases this
   unfold posE delE
   rw [if_neg hl, List.filter_cons_of_neg (by simpa using he)]
   simp only [List.take_zero, List.nil_append, List.drop_succ_cons, List.drop_zero]
   rw [List.filter_eq_self.2]
   intro z hz
   have := ltB_ne (h1 z hz)
   rw [he] at this
   simpa using fun e => this e.symm
theorem with_any (w : World) (v : Value) (l : List En) (hv : EnsAt w v l) (hs : SortE l) (hl : l.length ≤ 999) (t : Nm) (num : Nat) (hn : hasE l t = false) :
  Calls Tryz.prog 61 #[v, S t, I num] w fun e w' => (∃ v', e = .returned v' ∧ EnOwn w' w.heap.size v' (insE l (t, num))) ∧ Kept [] w w' := by
 have HE := Lib.hid (entered_any w v l hv hs (by omega) t)
 have HP := Lib.hid (posE_ins hs (t, num) hn)
 have HL := Lib.hid (And.intro (posE_le t l) hl)
 have HC := Lib.hid (fun W (k : Kept [] w W) => eclone_any W v l (hv.same k) (by omega))
 obtain ⟨p, c, b, rfl, _⟩ := hv
 clear hs hl hn
 go_enter Tryz.func61, Tryz.ntmps61
 go_wp2_with (fail)
 refine HE.out.mono ?_
 rintro e w1 ⟨rfl, k1⟩
 have K1 := Lib.hid k1
 clear k1
 go_wp2_with (fail)
 refine (HC.out _ K1.out).mono ?_
 rintro e w2 ⟨⟨v2, rfl, h2⟩, k2⟩
 have K2 := Lib.hid (And.intro h2 k2)
 clear h2 k2
 go_wp2_with (fail)
 refine (einsert_any _ w1.heap.size v2 l (own_kept (T := []) K2.out.1 ((Kept.refl [] w2).alloc _) (fun _ _ => by simp)) (posE l t) HL.out.1 (t, num) w2.heap.size (heap_new w2 _) (fun q hq => by have := (own_block_of K2.out.1 q hq).2; omega) (by rw [World.size_alloc]; have := K2.out.2.size; omega) (by have := HL.out.2; omega)).mono ?_
 rintro e w3 ⟨⟨v3, rfl, h3⟩, k3⟩
 have K3 := Lib.hid (And.intro h3 k3)
 clear h3 k3
 go_wp2_with (fail)
 go_ret
 obtain ⟨h3, k3⟩ := K3.out
 rw [HP.out] at h3
 have hw1 := K1.out.size
 refine ⟨⟨v3, rfl, h3.1, ?_⟩, (K1.out.trans' K2.out.2).new (((Kept.refl _ _).alloc _).trans' k3) (fun q hq => by have := (own_block_of K2.out.1 q hq).1; omega)⟩
 rcases h3.2 with h | ⟨g, c, cur, a1, a2, a3⟩
 ·exact .inl h
 ·exact .inr ⟨g, c, cur, a1, by omega, a3⟩
theorem without_any (w : World) (v : Value) (l : List En) (hv : EnsAt w v l) (hs : SortE l) (hl : l.length ≤ 999) (t : Nm) (hn : hasE l t = true) :
  Calls Tryz.prog 59 #[v, S t] w fun e w' => (∃ v', e = .returned v' ∧ EnOwn w' w.heap.size v' (delE l t)) ∧ Kept [] w w' := by
 have HE := Lib.hid (entered_any w v l hv hs (by omega) t)
 have HP := Lib.hid (posE_del hs t hn)
 have hlt : posE l t < l.length := by
  have h1 := hasE_pos hs (t := t)
  rw [hn] at h1
  rcases Nat.lt_or_ge (posE l t) l.length with h | h
  ·exact h
  ·rw [List.getElem?_eq_none h] at h1; cases h1
 have HL := Lib.hid (And.intro hlt hl)
 have HC := Lib.hid (fun W (k : Kept [] w W) => eclone_any W v l (hv.same k) (by omega))
 have hpI : (posE l t : Int) ≤ 1000 := by omega
 have hp0 : (0 : Int) ≤ (posE l t : Int) := by omega
 obtain ⟨p, c, b, rfl, _⟩ := hv
 clear hs hl hn hlt
 go_enter Tryz.func59, Tryz.ntmps59
 go_wp2_with (fail)
 refine HE.out.mono ?_
 rintro e w1 ⟨rfl, k1⟩
 have K1 := Lib.hid k1
 clear k1
 go_wp2_with (fail)
 refine (HC.out _ K1.out).mono ?_
 rintro e w2 ⟨⟨v2, rfl, h2⟩, k2⟩
 rcases h2.2 with ⟨_, h0⟩ | ⟨g, c2, cur, rfl, hb, hg, hnc, hc, hsz, ht⟩
 ·have := HL.out.1; omega
 have K2 := Lib.hid (And.intro hb (And.intro hg (And.intro hnc (And.intro hc (And.intro hsz (And.intro ht k2))))))
 clear h2 k2 hb hg hnc hc hsz ht
 go_wp2_with (fail)
 obtain ⟨hb, hg, hnc, hc, hsz, ht, k2⟩ := K2.out
 refine (edelete_any _ w1.heap.size l g c2 cur hg hb hc hsz ht (posE l t) HL.out.1 hnc (by have := HL.out.2; omega)).mono ?_
 rintro e w3 ⟨⟨v3, rfl, h3⟩, k3⟩
 have K3 := Lib.hid (And.intro h3 k3)
 clear h3 k3 hb hg hnc hc hsz ht k2
 go_wp2_with (fail)
 go_ret
 obtain ⟨h3, k3⟩ := K3.out
 obtain ⟨hb, hg, hnc, hc, hsz, ht, k2⟩ := K2.out
 rw [HP.out] at h3
 have hw1 := K1.out.size
 refine ⟨⟨v3, rfl, h3.1, ?_⟩, (K1.out.trans' k2).new k3 (fun q hq => by simp at hq; omega)⟩
 rcases h3.2 with h | ⟨g, c, cur, a1, a2, a3⟩
 ·exact .inl h
 ·exact .inr ⟨g, c, cur, a1, by omega, a3⟩
end Go.Proofs.YteplbljjlbdhaaaGreatDoor
