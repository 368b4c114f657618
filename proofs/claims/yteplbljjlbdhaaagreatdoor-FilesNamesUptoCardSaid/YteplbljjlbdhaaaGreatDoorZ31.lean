/- Walks and lemmas on the program of this seat, used by its statements; each theorem bears its own conditions. -/
import Derived.Test.YteplbljjlbdhaaaGreatDoorZ30
namespace Go.Proofs.YteplbljjlbdhaaaGreatDoor
open Go.RowKit
set_option linter.unusedVariables false
set_option linter.unusedSimpArgs false
set_option linter.unusedSectionVars false
set_option maxHeartbeats 16000000
set_option maxRecDepth 100000
def PathP (w0 : World) (w : World) (v : Value) (s : List UInt8) : Prop := match WX.pathF s with
 | none => v = .tuple #[.slice none 0 0, I 160]
 | some p => ∃ lv, v = .tuple #[lv, I 0] ∧ NewStrs w0.heap.size w lv p
theorem PathP.no {w0 w : World} {s : List UInt8} (h : WX.pathF s = none) : PathP w0 w (.tuple #[.slice none 0 0, I 160]) s := by unfold PathP; rw [h]
theorem PathP.yes {w0 w : World} {s : List UInt8} {p : List Nm} {lv : Value} (h : WX.pathF s = some p) (hl : NewStrs w0.heap.size w lv p) : PathP w0 w (.tuple #[lv, I 0]) s := by unfold PathP; rw [h]; exact ⟨lv, rfl, hl⟩
theorem NewStrs.turn {w w' : World} {B : Nat} {v : Value} {ns : List (List UInt8)} {T : List Nat} (h : NewStrs B w v ns) (k : Kept T w w') (hT : ∀ x ∈ T, x < B) : NewStrs B w' v ns := by
 rcases h with h | ⟨b, h1, h2, h3, h4⟩
 ·exact .inl h
 ·exact .inr ⟨b, h1, h2, h3, k.at h4 (fun hm => by have := hT b hm; omega)⟩
theorem fpath_any (w : World) (s : List UInt8) (hs : s.length < 4294967281) (hT : Tabs w) :
  Calls Tryz.prog 53 #[S s] w fun e w' => (∃ v, e = .returned v ∧ PathP w w' v s) ∧ Kept [] w w' := by
 cases hp : WX.pathF s with
 | none =>
  have HP := Lib.hid (path_bad s w hp hs hT)
  have HPH := Lib.hid hp
  clear hp hs hT
  go_enter Tryz.func53, Tryz.ntmps53
  go_wp2_with (fail)
  refine HP.out.mono ?_
  rintro e w1 ⟨rfl, k1⟩
  have K1 := Lib.hid k1
  clear k1
  go_wp2_with (fail)
  go_ret2
  exact ⟨⟨_, rfl, PathP.no HPH.out⟩, K1.out⟩
 | some p =>
  have HP := Lib.hid (path_yes s p w hp hs hT)
  have HPH := Lib.hid hp
  clear hp hs hT
  go_enter Tryz.func53, Tryz.ntmps53
  go_wp2_with (fail)
  refine HP.out.mono ?_
  rintro e w1 ⟨v, rfl, h1, k1⟩
  have K1 := Lib.hid (And.intro h1 k1)
  clear h1 k1
  go_wp2_with (fail)
  go_ret2
  exact ⟨⟨_, rfl, PathP.yes HPH.out K1.out.1⟩, K1.out.2⟩
def GotP (w : World) (v : Value) (E : List Nd) (s : List UInt8) : Prop := match WX.pathF s with
 | none => v = .tuple #[I 0, .nilIface, I 160]
 | some p => FindP w v E p ∧ (findF E [] p = 0 → p = [] ∨ (ent E p).isSome)
theorem GotP.no {w : World} {E : List Nd} {s : List UInt8} (h : WX.pathF s = none) : GotP w (.tuple #[I 0, .nilIface, I 160]) E s := by unfold GotP; rw [h]
theorem GotP.yes {w : World} {v : Value} {E : List Nd} {s : List UInt8} {p : List Nm} (h : WX.pathF s = some p) (h1 : FindP w v E p) (h2 : findF E [] p = 0 → p = [] ∨ (ent E p).isSome) : GotP w v E s := by unfold GotP; rw [h]; exact ⟨h1, h2⟩
theorem got_any (w : World) (fb sb : Nat) (V : OM) (given : Nat) (E : List Nd) (h : FR w fb sb V given E) (hT : Tabs w) (s : List UInt8) (hs : s.length < 4294967281) :
  Calls Tryz.prog 65 #[Ptr fb, S s] w fun e w' => (∃ v, e = .returned v ∧ GotP w' v E s) ∧ Kept [] w w' := by
 have HP := Lib.hid (fpath_any w s hs hT)
 have H := Lib.hid h
 clear h
 go_enter Tryz.func65, Tryz.ntmps65
 go_wp2_with (fail)
 refine HP.out.mono ?_
 rintro e w1 ⟨⟨v, rfl, h1⟩, k1⟩
 unfold PathP at h1
 have K1 := Lib.hid k1
 clear k1
 cases hp : WX.pathF s with
 | none =>
  rw [hp] at h1
  have h1 : v = .tuple #[.slice none 0 0, I 160] := h1
  subst h1
  have HPH := Lib.hid hp
  clear hp
  go_wp2_with (fail)
  go_ret3
  exact ⟨⟨_, rfl, GotP.no HPH.out⟩, K1.out⟩
 | some p =>
  rw [hp] at h1
  obtain ⟨lv, rfl, hl⟩ := h1
  have HF := Lib.hid (find_any w1 fb sb V given E (H.out.same K1.out) lv p hl.at (WX.path_names hp).1)
  have HPH := Lib.hid hp
  clear hp hl
  go_wp2_with (fail)
  refine HF.out.mono ?_
  rintro e w2 ⟨⟨v, rfl, h2, h3⟩, k2⟩
  unfold FindP at h2
  have K2 := Lib.hid (And.intro h3 k2)
  clear h3 k2
  by_cases hz : findF E [] p = 0
  ·rw [if_pos hz] at h2
   obtain ⟨nv, rfl, hn⟩ := h2
   have HZ := Lib.hid (And.intro hz hn)
   clear hz hn
   go_wp2_with (fail)
   go_ret3
   exact ⟨⟨_, rfl, GotP.yes HPH.out (by unfold FindP; rw [if_pos HZ.out.1]; exact ⟨_, rfl, HZ.out.2⟩) K2.out.1⟩, K1.out.trans' K2.out.2⟩
  ·rw [if_neg hz] at h2
   subst h2
   have HZ := Lib.hid hz
   clear hz
   go_wp2_with (fail)
   go_ret3
   exact ⟨⟨_, rfl, GotP.yes HPH.out (by unfold FindP; rw [if_neg HZ.out]; rfl) K2.out.1⟩, K1.out.trans' K2.out.2⟩
def FileP (v : Value) (E : List Nd) (s : List UInt8) : Prop := match WX.pathF s with
 | none => v = .tuple #[I 0, .agg #[I 0], I 160]
 | some p => if findF E [] p = 0 then (if isDirP E p = true then v = .tuple #[I 0, .agg #[I 0], I 163] else ∃ x, ent E p = some x ∧ v = .tuple #[I x.num, .agg #[I x.data.length], I 0]) else v = .tuple #[I 0, .agg #[I 0], I (findF E [] p)]
theorem file_any (w : World) (fb sb : Nat) (V : OM) (given : Nat) (E : List Nd) (h : FR w fb sb V given E) (hT : Tabs w) (s : List UInt8) (hs : s.length < 4294967281) :
  Calls Tryz.prog 45 #[Ptr fb, S s] w fun e w' => (∃ v, e = .returned v ∧ FileP v E s) ∧ Kept [] w w' := by
 have HG := Lib.hid (fun W (k : Kept [] w W) => got_any W fb sb V given E (h.same k) (hT.kept k) s hs)
 have H := Lib.hid h
 have hn0 := heap_new w (Obj.cells #[I 0] 78)
 have hk0 := (Kept.refl [] w).alloc (Obj.cells #[I 0] 78)
 obtain ⟨W0, hW0⟩ : ∃ W0, w.alloc (Obj.cells #[I 0] 78) = W0 := ⟨_, rfl⟩
 rw [hW0] at hn0 hk0
 clear h
 go_enter Tryz.func45, Tryz.ntmps45
 go_wp2_with (simp only [hW0])
 refine (HG.out _ hk0).mono ?_
 rintro e w1 ⟨⟨v, rfl, h1⟩, k1⟩
 unfold GotP at h1
 have hn1 := k1.at hn0 (by simp)
 have c1 := cell_at hn1 0
 have fr1 := free_at hn1
 simp only [List.getElem?_toArray, List.getElem?_cons_zero] at c1
 have K1 := Lib.hid (hk0.trans' k1)
 have HN1 := Lib.hid hn1
 clear k1 hn0 hk0 hW0 hn1
 have hk1 : ∀ u, Kept [] w (w1.setCell ⟨w.heap.size, 0, none⟩ u) := fun u => K1.out.setCell (.inr (Nat.le_refl _)) u
 have HK1 := Lib.hid hk1
 have m0 : ∀ n : Int, (w1.setCell ⟨w.heap.size, 0, none⟩ (.int .i64 n)).cell? ⟨w.heap.size, 0, none⟩ = some (.int .i64 n) := fun n => by
  rw [cell_at (heap_setCell_at HN1.out 0 _)]; rfl
 clear hk1
 cases hp : WX.pathF s with
 | none =>
  rw [hp] at h1
  have h1 : v = .tuple #[I 0, .nilIface, I 160] := h1
  subst h1
  have HPH : Hid (FileP (.tuple #[I 0, .agg #[I 0], I 160]) E s) := Lib.hid (by unfold FileP; rw [hp])
  clear hp
  go_wp2_with (fail)
  refine bodyPost_ret (by simp [results, Tryz.results45, go_sem, m0]; try rfl) rfl ?_
  exact ⟨⟨_, rfl, HPH.out⟩, HK1.out _⟩
 | some p =>
  rw [hp] at h1
  obtain ⟨h1, h2⟩ := h1
  unfold FindP at h1
  by_cases hz : findF E [] p = 0
  ·rw [if_pos hz] at h1
   obtain ⟨nv, rfl, hn⟩ := h1
   rcases hn with ⟨hd, d, rfl, hens⟩ | ⟨hd, x, hx, rfl⟩
   ·have HPH : Hid (FileP (.tuple #[I 0, .agg #[I 0], I 163]) E s) := Lib.hid (by unfold FileP; rw [hp]; simp only; rw [if_pos hz, if_pos hd]; trivial)
    have hta := fun (W : World) => (show (Instr.typeAssert (.iface 87 d) 99 78 true).run Tryz.prog W = .ok (.tuple #[.agg #[I 0], .bool false]) W from by kernel_rfl)
    have n1 := heap_new w1 (Obj.cells #[I 0] 78)
    have hk2 := K1.out.alloc (Obj.cells #[I 0] 78)
    have nA := ((Kept.refl [] w1).alloc (Obj.cells #[I 0] 78)).at HN1.out (by simp)
    have hAB : w1.heap.size ≠ w.heap.size := by
     intro h
     have hlt : w.heap.size < w1.heap.size := by
      rcases Nat.lt_or_ge w.heap.size w1.heap.size with h | h
      ·exact h
      ·have := HN1.out; rw [Array.getElem?_eq_none h] at this; cases this
     omega
    obtain ⟨W2, hW2⟩ : ∃ W2, w1.alloc (Obj.cells #[I 0] 78) = W2 := ⟨_, rfl⟩
    obtain ⟨q, hq⟩ : ∃ q, w1.heap.size = q := ⟨_, rfl⟩
    have hqw : w.heap.size ≤ q := by rw [← hq]; exact K1.out.size
    rw [hW2] at n1 hk2 nA
    rw [hq] at n1 hAB
    have a1 := cell_at n1 0
    have a2 := free_at n1
    simp only [List.getElem?_toArray, List.getElem?_cons_zero] at a1
    have nA3 : ∀ n : Int, (W2.setCell ⟨q, 0, none⟩ (.int .i64 n)).heap[w.heap.size]? = some (.cells #[I 0] 78 (0, 0)) := fun n => ((Kept.refl [q] W2).setCell (p := ⟨q, 0, none⟩) (.inl (by simp)) _).at nA (by simpa using fun h => hAB h.symm)
    have b1 : ∀ n : Int, (W2.setCell ⟨q, 0, none⟩ (.int .i64 n)).cell? ⟨q, 0, none⟩ = some (.int .i64 n) := fun n => by rw [cell_at (heap_setCell_at n1 0 _)]; rfl
    have b2 : ∀ n : Int, (W2.setCell ⟨q, 0, none⟩ (.int .i64 n)).cell? ⟨w.heap.size, 0, none⟩ = some (I 0) := fun n => by rw [cell_at (nA3 n)]; rfl
    have b4 : ∀ n : Int, (W2.setCell ⟨q, 0, none⟩ (.int .i64 n)).frozen? ⟨w.heap.size, 0, none⟩ = false := fun n => free_at (nA3 n) 0
    have b3 : ∀ n m : Int, ((W2.setCell ⟨q, 0, none⟩ (.int .i64 n)).setCell ⟨w.heap.size, 0, none⟩ (.int .i64 m)).cell? ⟨w.heap.size, 0, none⟩ = some (.int .i64 m) := fun n m => by rw [cell_at (heap_setCell_at (nA3 n) 0 _)]; rfl
    have b5 : ∀ n m : Int, ((W2.setCell ⟨q, 0, none⟩ (.int .i64 n)).drew.setCell ⟨w.heap.size, 0, none⟩ (.int .i64 m)).cell? ⟨w.heap.size, 0, none⟩ = some (.int .i64 m) := fun n m => b3 n m
    have HK2 : Hid (∀ u v, Kept [] w ((W2.setCell ⟨q, 0, none⟩ u).setCell ⟨w.heap.size, 0, none⟩ v)) := Lib.hid (fun u v => (hk2.setCell (.inr hqw) u).setCell (.inr (Nat.le_refl _)) v)
    have HK3 : Hid (∀ u v, Kept [] w ((W2.setCell ⟨q, 0, none⟩ u).drew.setCell ⟨w.heap.size, 0, none⟩ v)) := Lib.hid (fun u v => (hk2.setCell (.inr hqw) u).drew.setCell (.inr (Nat.le_refl _)) v)
    have HQ := Lib.hid (And.intro hq (And.intro n1 nA))
    clear n1 hk2 nA nA3 hqw m0 c1 fr1 hp h2 hz hAB
    clear hens hd
    go_wp2_with (simp only [hW2])
    refine bodyPost_ret (by simp [results, Tryz.results45, go_sem, b3, b5]; try rfl) rfl ?_
    exact ⟨⟨_, rfl, HPH.out⟩, HK2.out _ _⟩
   ·have HPH : Hid (FileP (.tuple #[I x.num, .agg #[I x.data.length], I 0]) E s) := Lib.hid (by unfold FileP; rw [hp]; simp only; rw [if_pos hz, if_neg (by rw [hd]; decide)]; exact ⟨x, hx, rfl⟩)
    have hnum : numP E p = x.num := numP_of hx (ent_path_ne H.out.wf hx)
    rw [hnum] at *
    have hta := fun (W : World) => (show (Instr.typeAssert (.iface 78 (.agg #[I x.data.length])) 99 78 true).run Tryz.prog W = .ok (.tuple #[.agg #[I x.data.length], .bool true]) W from by kernel_rfl)
    have n1 := heap_new w1 (Obj.cells #[I 0] 78)
    have hk2 := K1.out.alloc (Obj.cells #[I 0] 78)
    have nA := ((Kept.refl [] w1).alloc (Obj.cells #[I 0] 78)).at HN1.out (by simp)
    have hAB : w1.heap.size ≠ w.heap.size := by
     intro h
     have hlt : w.heap.size < w1.heap.size := by
      rcases Nat.lt_or_ge w.heap.size w1.heap.size with h | h
      ·exact h
      ·have := HN1.out; rw [Array.getElem?_eq_none h] at this; cases this
     omega
    obtain ⟨W2, hW2⟩ : ∃ W2, w1.alloc (Obj.cells #[I 0] 78) = W2 := ⟨_, rfl⟩
    obtain ⟨q, hq⟩ : ∃ q, w1.heap.size = q := ⟨_, rfl⟩
    have hqw : w.heap.size ≤ q := by rw [← hq]; exact K1.out.size
    rw [hW2] at n1 hk2 nA
    rw [hq] at n1 hAB
    have a1 := cell_at n1 0
    have a2 := free_at n1
    simp only [List.getElem?_toArray, List.getElem?_cons_zero] at a1
    have nA3 : ∀ n : Int, (W2.setCell ⟨q, 0, none⟩ (.int .i64 n)).heap[w.heap.size]? = some (.cells #[I 0] 78 (0, 0)) := fun n => ((Kept.refl [q] W2).setCell (p := ⟨q, 0, none⟩) (.inl (by simp)) _).at nA (by simpa using fun h => hAB h.symm)
    have b1 : ∀ n : Int, (W2.setCell ⟨q, 0, none⟩ (.int .i64 n)).cell? ⟨q, 0, none⟩ = some (.int .i64 n) := fun n => by rw [cell_at (heap_setCell_at n1 0 _)]; rfl
    have b2 : ∀ n : Int, (W2.setCell ⟨q, 0, none⟩ (.int .i64 n)).cell? ⟨w.heap.size, 0, none⟩ = some (I 0) := fun n => by rw [cell_at (nA3 n)]; rfl
    have b4 : ∀ n : Int, (W2.setCell ⟨q, 0, none⟩ (.int .i64 n)).frozen? ⟨w.heap.size, 0, none⟩ = false := fun n => free_at (nA3 n) 0
    have b3 : ∀ n m : Int, ((W2.setCell ⟨q, 0, none⟩ (.int .i64 n)).setCell ⟨w.heap.size, 0, none⟩ (.int .i64 m)).cell? ⟨w.heap.size, 0, none⟩ = some (.int .i64 m) := fun n m => by rw [cell_at (heap_setCell_at (nA3 n) 0 _)]; rfl
    have b5 : ∀ n m : Int, ((W2.setCell ⟨q, 0, none⟩ (.int .i64 n)).drew.setCell ⟨w.heap.size, 0, none⟩ (.int .i64 m)).cell? ⟨w.heap.size, 0, none⟩ = some (.int .i64 m) := fun n m => b3 n m
    have HK2 : Hid (∀ u v, Kept [] w ((W2.setCell ⟨q, 0, none⟩ u).setCell ⟨w.heap.size, 0, none⟩ v)) := Lib.hid (fun u v => (hk2.setCell (.inr hqw) u).setCell (.inr (Nat.le_refl _)) v)
    have HK3 : Hid (∀ u v, Kept [] w ((W2.setCell ⟨q, 0, none⟩ u).drew.setCell ⟨w.heap.size, 0, none⟩ v)) := Lib.hid (fun u v => (hk2.setCell (.inr hqw) u).drew.setCell (.inr (Nat.le_refl _)) v)
    have HQ := Lib.hid (And.intro hq (And.intro n1 nA))
    clear n1 hk2 nA nA3 hqw m0 c1 fr1 hp h2 hz hAB
    clear hd hx hnum
    go_wp2_with (simp only [hW2])
    go_region
    all_goals
     go_wp2
     refine bodyPost_ret (by simp [results, Tryz.results45, go_sem, b3, b5]; try rfl) rfl ?_
     exact ⟨⟨_, rfl, HPH.out⟩, HK3.out _ _⟩
  ·rw [if_neg hz] at h1
   subst h1
   have HPH : Hid (FileP (.tuple #[I 0, .agg #[I 0], I (findF E [] p)]) E s) := Lib.hid (by unfold FileP; rw [hp]; simp only; rw [if_neg hz]; trivial)
   have hzI : ((findF E [] p : Int) != 0) = true := by simp; exact hz
   clear hp h2 hz
   go_wp2_with (fail)
   refine bodyPost_ret (by simp [results, Tryz.results45, go_sem, m0]; try rfl) rfl ?_
   exact ⟨⟨_, rfl, HPH.out⟩, HK1.out _⟩
def WithinP (w : World) (v : Value) (E : List Nd) (p : List Nm) : Prop :=
 if findF E [] p.dropLast = 0 then (if isDirP E p.dropLast = true then ∃ d, v = .tuple #[I (numP E p.dropLast), d, S (p.getLastD []), I 0] ∧ EnsAt w d (kids E p.dropLast) else v = .tuple #[I 0, .slice none 0 0, S [], I 163]) else v = .tuple #[I 0, .slice none 0 0, S [], I (findF E [] p.dropLast)]
theorem StrsAt.front {w : World} {lp : Option Addr} {lc : Nat} {p : List Nm} {n : Nat} (h : StrsAt w (.slice lp n lc) p) : StrsAt w (.slice lp (n - 1) lc) p.dropLast := by
 obtain ⟨q, c, hv, h1, h2, h3, h4⟩ := h
 injection hv with e1 e2 e3
 subst e1; subst e2; subst e3
 refine ⟨lp, lc, by rw [List.length_dropLast], by rw [List.length_dropLast]; omega, by rw [List.length_dropLast]; omega, h3, fun hne => ?_⟩
 have hpn : p ≠ [] := by rintro rfl; exact hne rfl
 obtain ⟨b, o, e, hc⟩ := h4 hpn
 refine ⟨b, o, e, fun i hi => ?_⟩
 rw [List.length_dropLast] at hi
 rw [hc i (by omega), List.getD_eq_getElem?_getD, List.getD_eq_getElem?_getD, List.getElem?_dropLast, if_pos hi]
theorem fwithin_any (w : World) (fb sb : Nat) (V : OM) (given : Nat) (E : List Nd) (h : FR w fb sb V given E) (lv : Value) (p : List Nm) (hl : StrsAt w lv p) (hp : p.length ≤ 8) (hne : p ≠ []) :
  Calls Tryz.prog 56 #[Ptr fb, lv] w fun e w' => (∃ v, e = .returned v ∧ WithinP w' v E p) ∧ Kept [] w w' := by
 have hl0 := hl
 obtain ⟨lp, lc, rfl, h1, h2, _, h3⟩ := hl
 obtain ⟨k, hk⟩ : ∃ k, p.length = k + 1 := ⟨p.length - 1, by cases p with | nil => exact absurd rfl hne | cons _ _ => simp⟩
 have hlf := hl0.front
 rw [hk] at hlf
 have HF := Lib.hid (find_any w fb sb V given E h (.slice lp k lc) p.dropLast hlf (by rw [List.length_dropLast]; omega))
 obtain ⟨b, off, rfl, hcl⟩ := h3 hne
 have e0 := hcl k (by omega)
 have hlast : p.getD k [] = p.getLastD [] := by
  rw [List.getLastD_eq_getLast?, List.getLast?_eq_getElem?, hk, List.getD_eq_getElem?_getD, Nat.add_sub_cancel]
 rw [hlast] at e0
 have HE0 := Lib.hid e0
 have hkI : (k : Int) ≤ 8 := by omega
 have hkc : (k : Int) + 1 ≤ lc := by omega
 have hkc2 : (k : Int) ≤ lc := by omega
 obtain ⟨ln, hln⟩ : ∃ ln, p.getLastD [] = ln := ⟨_, rfl⟩
 obtain ⟨so, hso⟩ : ∃ so, p.dropLast = so := ⟨_, rfl⟩
 have hW : Hid (∀ W v, (if findF E [] so = 0 then (if isDirP E so = true then ∃ d, v = .tuple #[I (numP E so), d, S ln, I 0] ∧ EnsAt W d (kids E so) else v = .tuple #[I 0, .slice none 0 0, S [], I 163]) else v = .tuple #[I 0, .slice none 0 0, S [], I (findF E [] so)]) → WithinP W v E p) := Lib.hid (by
  intro W v h; unfold WithinP; rw [hso, hln]; exact h)
 rw [hln] at HE0
 rw [hso] at HF
 rw [hk]
 clear hcl h1 h2 hl0 hlf h e0 hlast hp
 go_enter Tryz.func56, Tryz.ntmps56
 go_wp2_with (fail)
 refine HF.out.mono ?_
 rintro e w1 ⟨⟨v, rfl, h1, _⟩, k1⟩
 have c1 := k1.cellOf HE0.out
 have K1 := Lib.hid k1
 clear k1
 unfold FindP at h1
 by_cases hz : findF E [] so = 0
 ·rw [if_pos hz] at h1
  obtain ⟨nv, rfl, hn⟩ := h1
  rcases hn with ⟨hd, d, rfl, hens⟩ | ⟨hd, x, hx, rfl⟩
  ·have hta := fun (W : World) => (show (Instr.typeAssert (.iface 87 d) 99 87 true).run Tryz.prog W = .ok (.tuple #[d, .bool true]) W from by kernel_rfl)
   have HX := Lib.hid (And.intro hz (And.intro hd hens))
   clear hz hd hens
   go_wp2_with (fail)
   go_region
   all_goals
    go_wp2
    go_returns
    refine ⟨⟨_, rfl, hW.out _ _ ?_⟩, K1.out.drew⟩
    rw [if_pos HX.out.1, if_pos HX.out.2.1]
    exact ⟨d, rfl, HX.out.2.2.same ((Kept.refl [] w1).drew)⟩
  ·have hta := fun (W : World) => (show (Instr.typeAssert (.iface 78 (.agg #[I x.data.length])) 99 87 true).run Tryz.prog W = .ok (.tuple #[.slice none 0 0, .bool false]) W from by kernel_rfl)
   have HX := Lib.hid (And.intro hz hd)
   clear hz hd hx
   go_wp2_with (fail)
   go_returns
   refine ⟨⟨_, rfl, hW.out _ _ ?_⟩, K1.out⟩
   rw [if_pos HX.out.1, if_neg (by rw [HX.out.2]; decide)]
 ·rw [if_neg hz] at h1
  subst h1
  have hzI : ((findF E [] so : Int) != 0) = true := by simp; exact hz
  have HX := Lib.hid hz
  clear hz
  go_wp2_with (fail)
  go_returns
  refine ⟨⟨_, rfl, hW.out _ _ ?_⟩, K1.out⟩
  rw [if_neg HX.out]
section
open Go.Maps Go.Sort Go.Shelf
def keysS_ren : Go.Shelf.Ren := ⟨fun | 7 => 86 | 10 => 110 | n => n, fun | 23 => 91 | 26 => 3 | 3 => 146 | 28 => 150 | 0 => 0 | 27 => 149 | 33 => 181 | 4 => 4 | n => n, fun | n => n⟩
theorem keysS : SlLaysZI.n7 Tryz.prog keysS_ren := {
  mixed := by kernel_rfl
  f7 := ⟨ "maps.Keys[farrier/files.set,int,farrier/api.Change]", by decide, Tryz.func86.trans (congrArg some (by kernel_rfl))⟩
  f10 := ⟨ "maps.Keys[farrier/files.set,int,farrier/api.Change]$1", by decide, Tryz.func110.trans (congrArg some (by kernel_rfl))⟩
  t0 := Tryz.underlying0
  a0 := Tryz.isAgg0
  z0 := Tryz.sizeOf0
  v0 := Tryz.zeroValue0
  t4 := Tryz.underlying4
  a4 := Tryz.isAgg4
  z4 := Tryz.sizeOf4
  v4 := Tryz.zeroValue4
  t23 := Tryz.underlying91
  a23 := Tryz.isAgg91
  z23 := Tryz.sizeOf91
  v23 := Tryz.zeroValue91
  t26 := Tryz.underlying3
  a26 := Tryz.isAgg3
  z26 := Tryz.sizeOf3
  v26 := Tryz.zeroValue3
  t27 := Tryz.underlying149
  a27 := Tryz.isAgg149
  z27 := Tryz.sizeOf149
  v27 := Tryz.zeroValue149
  t28 := Tryz.underlying150
  a28 := Tryz.isAgg150
  z28 := Tryz.sizeOf150
  v28 := Tryz.zeroValue150
  t33 := Tryz.underlying181
  a33 := Tryz.isAgg181
  z33 := Tryz.sizeOf181
  v33 := Tryz.zeroValue181
 }
theorem ssorted_any (b nn : Nat) (D0 : DataW Unit) (R : Value → Option (DataW Unit × List MemPlace)) (w : World) (hown : w.ownsMap Tryz.prog 3 R b nn D0) (hmax : Maps.size D0 ≤ maxLen) (hbytes : Maps.size D0 * 8 ≤ 140737488355328) :
  Calls Tryz.prog 85 #[.func (.func 110) #[] #[.pointer (some ⟨w.heap.size, 0, none⟩)]] (w.alloc (.cells #[.map (some b)] 91)) fun e w' => ∃ (v : Value) (ss : List Int), e = .returned v ∧ ss.Perm (intKeys D0) ∧
   w'.ownsRow (w.alloc (.cells #[.map (some b)] 91)).heap.size 3 1 v ss.length ((ss.mergeSort (fun x y => decide (x ≤ y))).map encZ) ∧ (v = .slice none 0 0 ↔ ss = []) ∧ Below (w.alloc (.cells #[.map (some b)] 91)).heap.size (w.alloc (.cells #[.map (some b)] 91)) w' := by
 have hbl := hown.lt
 have hseq : SeqGives Fence.wide 2 Tryz.prog 110 #[.pointer (some ⟨w.heap.size, 0, none⟩)] encZ (fun ss => ss.Perm (intKeys D0)) (Maps.size D0) (w.alloc (.cells #[.map (some b)] 91)) :=
  AnyZI.keys_gives (ρ := keysS_ren) { keysS with } Fence.wide _ trivial rfl (by omega) w.heap.size b nn D0 _ (by simp) (by simp) (by
   obtain ⟨es, clock, hb, Ft, hs, hD⟩ := hown
   exact ⟨es, clock, (Below.heap_alloc _ _ b hbl).trans hb, Ft, hs, hD⟩)
 exact callsIn_wide.1 (AnyZI.sorted_in sortedL Fence.wide 5 trivial trivial trivial trivial rfl (by omega) (sortsI _) (enters_of Tryz.func109 (by kernel_rfl) rfl) 110 #[.pointer (some ⟨w.heap.size, 0, none⟩)] trivial (enters_of Tryz.func110 (by kernel_rfl) rfl) _ _ hmax hbytes _ hseq)
theorem skeys_any (mb : Option Nat) (w : World) :
  Calls Tryz.prog 86 #[.map mb] w fun e w' => e = .returned (.func (.func 110) #[] #[.pointer (some ⟨w.heap.size, 0, none⟩)]) ∧ w' = w.alloc (.cells #[.map mb] 91) :=
 callsIn_wide.1 (AnyZI.keys_in keysS Fence.wide 5 trivial rfl mb w)
def chV (c : Ch) : Value := .agg #[I c.key, S c.val, .bool c.drop]
def chD (c : Ch) : DataW Unit := .agg [.lit (.int .i64 c.key), .lit (.string c.val), .lit (.bool c.drop)]
def chL : List Value → Option (DataW Unit × List MemPlace)
 | [.int .i64 a, .string s, .bool b] => some (.agg [.lit (.int .i64 a), .lit (.string s.data.toList), .lit (.bool b)], [])
 | _ => none
def chR : Value → Option (DataW Unit × List MemPlace)
 | .agg cs => chL cs.toList
 | _ => none
theorem chR_mk (c : Ch) : chR (chV c) = some (chD c, []) := rfl
theorem chR_inv : ∀ v c ps, chR v = some (chD c, ps) → v = chV c := by
 intro v c ps h
 unfold chR at h
 split at h
 ·next cs =>
  unfold chL at h
  split at h
  ·next a s b hcs =>
   simp only [chD, Option.some.injEq, Prod.mk.injEq, DataW.agg.injEq, List.cons.injEq, DataW.lit.injEq, Lit.string.injEq, Lit.int.injEq, Lit.bool.injEq, and_true, true_and] at h
   obtain ⟨⟨h1, h2, h3⟩, _⟩ := h
   have : cs = #[I a, .string s, .bool b] := by rw [← Array.toArray_toList (xs := cs), hcs]
   rw [this]
   unfold chV
   rw [h1, h3, ← h2]
  ·cases h
 ·cases h
theorem ch_zero (w : World) : (zeroValue 146).run Tryz.prog w = .ok (chV ⟨0, [], false⟩) w := by kernel_rfl
abbrev CM := List (Int × Ch)
abbrev SetAt := AMapAt chR chD
theorem SetAt.look {w : World} {mb : Nat} {M : CM} (h : SetAt w mb M) {k : Int} (hk : I64 k) {c : Ch} (hc : findA M k = some c) : (Instr.lookup 91 (.map (some mb)) (I k) false).run Tryz.prog w = .ok (chV c) w := by
 have := AMapAt.look h Tryz.underlying91 (z := ⟨0, [], false⟩) (val := chV) (ch_zero w) rfl chR_inv hk
 rw [hc] at this
 exact this
theorem SetAt.store {w : World} {mb : Nat} {M : CM} (h : SetAt w mb M) (hn : M.length < 100000) {k : Int} (hk : I64 k) (c : Ch) :
  ∃ w', (Instr.mapUpdate 91 (.map (some mb)) (I k) (chV c)).run Tryz.prog w = .ok () w' ∧ SetAt w' mb (insA (delA M k) k c) ∧ Kept [mb] w w' :=
 AMapAt.store h Tryz.underlying91 (by unfold maxLen; omega) hk (chR_mk c)
def putS (M : CM) (k : Int) (row : List UInt8) : CM := insA (delA M k) k (if k = 64 ∧ row.length = 1 then ⟨k, [], true⟩ else ⟨k, row, false⟩)
def dropS (M : CM) (k : Int) : CM := insA (delA M k) k ⟨k, [], true⟩
theorem putS_twice {M : CM} (h : SortedA M) (k : Int) (a b : Ch) : insA (delA (insA (delA M k) k a) k) k b = insA (delA M k) k b := by
 have hn : findA (delA M k) k = none := by rw [find_del h, if_pos rfl]
 have hs := sorted_ins (sorted_del h k) k a hn
 have hn2 : findA (delA (insA (delA M k) k a) k) k = none := by rw [find_del hs, if_pos rfl]
 refine ext_sorted (sorted_ins (sorted_del hs k) k b hn2) (sorted_ins (sorted_del h k) k b hn) fun j => ?_
 rw [find_ins _ _ _ hn2, find_ins _ _ _ hn, find_del hs, find_ins _ _ _ hn, find_del h]
 by_cases hj : j = k
 ·rw [if_pos hj, if_pos hj]
 ·rw [if_neg hj, if_neg hj, if_neg hj, if_neg hj, if_neg hj]
theorem ch_field2 (k : Int) (r : List UInt8) (b : Bool) (w : World) : (Instr.field 146 (.agg #[I k, S r, .bool b]) 2).run Tryz.prog w = .ok (.bool b) w := by kernel_rfl
theorem sput_any (w : World) (mb : Nat) (M : CM) (h : SetAt w mb M) (hn : M.length < 1000) (k : Int) (hk : I64 k) (row : List UInt8) (hr : row.length ≤ 1000) :
  Calls Tryz.prog 47 #[.map (some mb), I k, S row] w fun e w' => e = .returned (.tuple #[]) ∧ SetAt w' mb (putS M k row) ∧ Kept [mb] w w' := by
 have hrI : (row.length : Int) ≤ 1000 := by omega
 have hfd := ch_field2
 by_cases h64 : k = 64
 ·subst h64
  by_cases h1 : row.length = 1
  ·obtain ⟨w1, r1, s1, k1⟩ := h.store (by omega) hk ⟨64, row, true⟩
   have hl := s1.look hk (c := ⟨64, row, true⟩) (by rw [find_ins _ _ _ (by rw [find_del h.srt, if_pos rfl]), if_pos rfl])
   have hlen : (insA (delA M 64) 64 (⟨64, row, true⟩ : Ch)).length < 100000 := by rw [len_ins]; have := len_del 64 M; omega
   obtain ⟨w2, r2, s2, k2⟩ := s1.store hlen hk ⟨64, [], true⟩
   rw [putS_twice h.srt] at s2
   have HE := Lib.hid (And.intro s2 (k1.trans' k2))
   have HP : Hid (putS M 64 row = insA (delA M 64) 64 ⟨64, [], true⟩) := Lib.hid (by unfold putS; rw [if_pos ⟨rfl, h1⟩])
   have h1I : ((row.length : Int) == 1) = true := by rw [h1]; rfl
   unfold chV at r1 r2 hl
   clear h s1 s2 k1 k2 hlen
   go_enter Tryz.func47, Tryz.ntmps47
   go_wp2_with (fail)
   refine bodyPost_end (v := .tuple #[]) (results_none rfl _ _ _) rfl ?_
   rw [HP.out]
   exact ⟨rfl, HE.out⟩
  ·obtain ⟨w1, r1, s1, k1⟩ := h.store (by omega) hk ⟨64, row, false⟩
   have hl := s1.look hk (c := ⟨64, row, false⟩) (by rw [find_ins _ _ _ (by rw [find_del h.srt, if_pos rfl]), if_pos rfl])
   have HE := Lib.hid (And.intro s1 k1)
   have HP : Hid (putS M 64 row = insA (delA M 64) 64 ⟨64, row, false⟩) := Lib.hid (by unfold putS; rw [if_neg (fun h => h1 h.2)])
   have h1I : ((row.length : Int) == 1) = false := by simp; omega
   unfold chV at r1 hl
   clear h s1 k1
   go_enter Tryz.func47, Tryz.ntmps47
   go_wp2_with (fail)
   refine bodyPost_end (v := .tuple #[]) (results_none rfl _ _ _) rfl ?_
   rw [HP.out]
   exact ⟨rfl, HE.out⟩
 ·obtain ⟨w1, r1, s1, k1⟩ := h.store (by omega) hk ⟨k, row, false⟩
  have hl := s1.look hk (c := ⟨k, row, false⟩) (by rw [find_ins _ _ _ (by rw [find_del h.srt, if_pos rfl]), if_pos rfl])
  have HE := Lib.hid (And.intro s1 k1)
  have HP : Hid (putS M k row = insA (delA M k) k ⟨k, row, false⟩) := Lib.hid (by unfold putS; rw [if_neg (fun h => h64 h.1)])
  have hkI : (k == 64) = false := by simp; omega
  unfold chV at r1 hl
  clear h s1 k1
  go_enter Tryz.func47, Tryz.ntmps47
  go_wp2_with (fail)
  refine bodyPost_end (v := .tuple #[]) (results_none rfl _ _ _) rfl ?_
  rw [HP.out]
  exact ⟨rfl, HE.out⟩
theorem sdrop_any (w : World) (mb : Nat) (M : CM) (h : SetAt w mb M) (hn : M.length < 1000) (k : Int) (hk : I64 k) :
  Calls Tryz.prog 52 #[.map (some mb), I k] w fun e w' => e = .returned (.tuple #[]) ∧ SetAt w' mb (dropS M k) ∧ Kept [mb] w w' := by
 obtain ⟨w1, r1, s1, k1⟩ := h.store (by omega) hk ⟨k, [], true⟩
 have HE := Lib.hid (And.intro s1 k1)
 unfold chV at r1
 clear h s1 k1
 go_enter Tryz.func52, Tryz.ntmps52
 go_wp2_with (fail)
 refine bodyPost_end (v := .tuple #[]) (results_none rfl _ _ _) rfl ?_
 exact ⟨rfl, HE.out⟩
end
end Go.Proofs.YteplbljjlbdhaaaGreatDoor
