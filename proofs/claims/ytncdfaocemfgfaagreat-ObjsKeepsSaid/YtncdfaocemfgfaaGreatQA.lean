/- Walks and lemmas on the program of this seat, used by its statements; each theorem bears its own conditions. -/
import Derived.Test.YtncdfaocemfgfaaGreatOX
import Derived.Handy
import Derived.OwnWalk
import Derived.Deep.AppendLies
import Derived.IntWalk
import Derived.Deep.CutRange
import Derived.Deep.RegionHeld3
import Derived.Deep.RegionLaw
import Derived.Maps.OwnSet
import Derived.Maps.Range
namespace Go.Proofs.YtncdfaocemfgfaaGreat
open Go.RowKit
set_option linter.unusedVariables false
set_option linter.unusedSimpArgs false
set_option maxHeartbeats 8000000
set_option maxRecDepth 100000
/-! ### The document's objects, pure -/
abbrev VL := List (Int × List UInt8)
def emitV (c : Ch) : VL := if c.drop then [] else [(c.key, c.val)]
def insV (c : Ch) (rest : VL → VL) : VL → VL
  | [] => emitV c ++ rest []
  | p :: L => if p.1 < c.key then p :: insV c rest L else if p.1 = c.key then emitV c ++ rest L else emitV c ++ rest (p :: L)
def withV : List Ch → VL → VL
  | [], L => L
  | c :: l, L => insV c (withV l) L
def stepV (L : VL) (c : Ch) : VL := if c.drop then delA L c.key else insA (delA L c.key) c.key c.val
theorem with_first (l : List Ch) (p : Int × List UInt8) (L : VL) (h : ∀ d ∈ l, p.1 < d.key) : withV l (p :: L) = p :: withV l L := by
  cases l with
  | nil => rfl
  | cons d l =>
    show insV d (withV l) (p :: L) = p :: insV d (withV l) L
    unfold insV
    rw [if_pos (h d List.mem_cons_self)]
    cases L <;> rfl
theorem del_gt {α : Type} {k : Int} {L : List (Int × α)} (h : ∀ p ∈ L, k < p.1) : delA L k = L := del_none k L (find_lt h)
theorem ins_gt {α : Type} {k : Int} {o : α} {L : List (Int × α)} (h : ∀ p ∈ L, k < p.1) : insA L k o = (k, o) :: L := by
  cases L with
  | nil => rfl
  | cons p t => unfold insA; rw [if_pos (h p List.mem_cons_self)]
theorem ins_with (c : Ch) (l : List Ch) (hl : ∀ d ∈ l, c.key < d.key) : ∀ L : VL, SortedA L → insV c (withV l) L = withV l (stepV L c)
  | [], _ => by
    unfold insV emitV stepV
    split
    · rfl
    · show [(c.key, c.val)] ++ withV l [] = withV l [(c.key, c.val)]
      rw [with_first l (c.key, c.val) [] hl]; rfl
  | p :: L, hs => by
    obtain ⟨h1, h2⟩ := List.pairwise_cons.1 hs
    unfold insV
    by_cases ha : p.1 < c.key
    · rw [if_pos ha, ins_with c l hl L h2]
      have e : stepV (p :: L) c = p :: stepV L c := by
        unfold stepV
        have e1 : delA (p :: L) c.key = p :: delA L c.key := by unfold delA; rw [if_neg (by omega)]; cases L <;> rfl
        rw [e1]
        split
        · rfl
        · show (if c.key < p.1 then _ else _) = _
          rw [if_neg (by omega)]
      rw [e, with_first l p _ (fun d hd => by have := hl d hd; omega)]
    · rw [if_neg ha]
      by_cases hb : p.1 = c.key
      · rw [if_pos hb]
        have e1 : delA (p :: L) c.key = L := by unfold delA; rw [if_pos hb]
        unfold emitV stepV
        rw [e1]
        split
        · rfl
        · rw [ins_gt (fun q hq => by have := h1 q hq; omega), with_first l (c.key, c.val) L hl]; rfl
      · rw [if_neg hb]
        have e1 : delA (p :: L) c.key = p :: L := del_gt (fun q hq => by
          rcases List.mem_cons.1 hq with rfl | hq
          · omega
          · have := h1 q hq; omega)
        unfold emitV stepV
        rw [e1]
        split
        · rfl
        · rw [ins_gt (fun q hq => by
            rcases List.mem_cons.1 hq with rfl | hq
            · omega
            · have := h1 q hq; omega), with_first l (c.key, c.val) (p :: L) hl]; rfl
theorem map_del {α β : Type} (f : α → β) (k : Int) : ∀ M : List (Int × α), mapA f (delA M k) = delA (mapA f M) k
  | [] => rfl
  | p :: t => by
    have ih := map_del f k t
    show mapA f (if p.1 = k then t else p :: delA t k) = if p.1 = k then mapA f t else (p.1, f p.2) :: delA (mapA f t) k
    split
    · rfl
    · show (p.1, f p.2) :: mapA f (delA t k) = _
      rw [ih]
theorem map_ins {α β : Type} (f : α → β) (k : Int) (o : α) : ∀ M : List (Int × α), mapA f (insA M k o) = insA (mapA f M) k (f o)
  | [] => rfl
  | p :: t => by
    have ih := map_ins f k o t
    show mapA f (if k < p.1 then (k, o) :: p :: t else p :: insA t k o) = if k < p.1 then (k, f o) :: (p.1, f p.2) :: mapA f t else (p.1, f p.2) :: insA (mapA f t) k (f o)
    split
    · rfl
    · show (p.1, f p.2) :: mapA f (insA t k o) = _
      rw [ih]
theorem step_map (M : OM) (s a : Nat) (c : Ch) : stepV (mapA Ob.val M) c = mapA Ob.val (take1 s a M c) := by
  unfold stepV take1
  split
  · rw [map_del]
  · rw [map_ins, map_del]
theorem with_take (s a : Nat) (l : List Ch) (hr : RisesC l) : ∀ {M : OM}, SortedA M → withV l (mapA Ob.val M) = mapA Ob.val (takesF M l s a) := by
  induction l with
  | nil => intro M _; rfl
  | cons c l ih =>
    intro M hs
    obtain ⟨h1, h2⟩ := List.pairwise_cons.1 hr
    show insV c (withV l) (mapA Ob.val M) = mapA Ob.val (takesF (take1 s a M c) l s a)
    rw [ins_with c l h1 _ (sorted_map _ hs), step_map M s a c]
    exact ih h2 (take1_sorted hs s a c)
theorem sum_with (s a : Nat) (l : List Ch) (hr : RisesC l) {M : OM} (hs : SortedA M) : (sumA wF (withV l (mapA Ob.val M)) : Int) = becW M l (sumA wO M) := by
  rw [becW_takes M s a l hr M hs (fun _ _ => rfl), with_take s a l hr hs, sum_map]
  rfl
def pairCells (l : VL) : List Value := l.flatMap fun p => [I p.1, S p.2]
theorem pair_cons (p : Int × List UInt8) (l : VL) : pairCells (p :: l) = I p.1 :: S p.2 :: pairCells l := rfl
theorem pairCells_len (l : VL) : (pairCells l).length = l.length * 2 := by
  induction l with
  | nil => rfl
  | cons s l ih => rw [pair_cons, List.length_cons, List.length_cons, List.length_cons, ih]; omega
theorem pairCells_at (l : VL) : ∀ (i : Nat) (h : i < l.length), (pairCells l)[i * 2]? = some (I l[i].1) ∧ (pairCells l)[i * 2 + 1]? = some (S l[i].2) := by
  induction l with
  | nil => intro i h; simp at h
  | cons p l ih =>
    intro i h
    cases i with
    | zero => exact ⟨rfl, rfl⟩
    | succ i =>
      have := ih i (by simpa using h)
      rw [pair_cons, show (i + 1) * 2 = i * 2 + 1 + 1 by omega]
      simpa using this
theorem pairCells_app (a b : VL) : pairCells (a ++ b) = pairCells a ++ pairCells b := by unfold pairCells; rw [List.flatMap_append]
theorem pairCells_one (l : VL) : ∀ u ∈ pairCells l, u.oneCell' = true := by
  intro u hu
  obtain ⟨p, _, hp⟩ := List.mem_flatMap.1 hu
  simp at hp
  rcases hp with rfl | rfl <;> rfl
theorem with_step (l : List Ch) (L : VL) (i k : Nat) : withV (l.drop k) (L.drop i) =
    if hk : k < l.length then
      if hi : i < L.length then
        if L[i].1 < l[k].key then L[i] :: withV (l.drop k) (L.drop (i + 1)) else if L[i].1 = l[k].key then emitV l[k] ++ withV (l.drop (k + 1)) (L.drop (i + 1)) else emitV l[k] ++ withV (l.drop (k + 1)) (L.drop i)
      else emitV l[k] ++ withV (l.drop (k + 1)) (L.drop i)
    else L.drop i := by
  split
  · next hk =>
    rw [List.drop_eq_getElem_cons hk]
    split
    · next hi =>
      rw [List.drop_eq_getElem_cons hi]
      show insV l[k] (withV (l.drop (k + 1))) (L[i] :: L.drop (i + 1)) = _
      conv => lhs; unfold insV
      split
      · rfl
      · split <;> rfl
    · next hi =>
      have e : L.drop i = [] := List.drop_of_length_le (by omega)
      rw [e]
      rfl
  · next hk => rw [List.drop_of_length_le (by omega)]; rfl
/-! ### The document's walks -/
theorem pages14_any (n : Nat) (hn : n ≤ 400) (w : World) : Calls Tryz.prog 86 #[I n] w fun e w' => e = .returned (I (pagesF n)) ∧ w' = w := by
  have hnI : (n : Int) ≤ 400 := by omega
  by_cases h : n ≤ 60
  · have hI : (n : Int) ≤ 60 := by omega
    have HP : Hid (pagesF n = 1) := Lib.hid (by unfold pagesF; rw [if_pos h])
    clear h
    go_enter Tryz.func86, Tryz.ntmps86
    go_wp2_with (fail)
    go_ret
    exact ⟨by rw [HP.out]; rfl, rfl⟩
  · have hI : decide ((n : Int) ≤ 60) = false := decide_eq_false (by omega)
    have hI2 : (60 : Int) < n := by omega
    have HP : Hid (pagesF n = 1 + (n + 2) / 63) := Lib.hid (by unfold pagesF; rw [if_neg h])
    have HV : Hid ((1 : Int) + ((n : Int) - 60 + 62) / 63 = (1 + (n + 2) / 63 : Nat)) := Lib.hid (by omega)
    clear h
    go_enter Tryz.func86, Tryz.ntmps86
    go_wp2_with (fail)
    go_ret
    exact ⟨by rw [HP.out, ← HV.out]; rfl, rfl⟩
theorem rweight_any (n : Nat) (hn : n ≤ 256) (w : World) : Calls Tryz.prog 64 #[I n] w fun e w' => e = .returned (I (pagesF (7 + n))) ∧ w' = w := by
  have hnI : (n : Int) ≤ 256 := by omega
  have HP := Lib.hid (pages14_any (7 + n) (by omega) w)
  have h7 : (7 : Int) + n = (7 + n : Nat) := by omega
  obtain ⟨N, hN⟩ : ∃ N, 7 + n = N := ⟨_, rfl⟩
  rw [hN] at HP h7 ⊢
  clear hN
  go_enter Tryz.func64, Tryz.ntmps64
  go_wp2_with (fail)
  refine HP.out.mono ?_
  rintro e w1 ⟨rfl, rfl⟩
  go_wp2_with (fail)
  go_ret
  exact ⟨rfl, rfl⟩
theorem rquota_any (n : Nat) (h1 : 8 ≤ n) (h2 : n ≤ 1000) (w : World) : Calls Tryz.prog 46 #[I n] w fun e w' => e = .returned (I (7 * (n - 4) / 2 : Nat)) ∧ w' = w := by
  have i1 : (8 : Int) ≤ n := by omega
  have i2 : (n : Int) ≤ 1000 := by omega
  have hq0 : (0 : Int) ≤ 7 * ((n : Int) - 4) := by omega
  have HV : Hid ((7 : Int) * ((n : Int) - 4) / 2 = (7 * (n - 4) / 2 : Nat)) := Lib.hid (by omega)
  clear h1 h2
  go_enter Tryz.func46, Tryz.ntmps46
  go_wp2_with (fail)
  go_ret
  exact ⟨by rw [← HV.out]; rfl, rfl⟩
/-- A list of objects in memory. -/
def PsAt (w : World) (v : Value) (l : VL) : Prop := ∃ p c g, v = .slice p l.length c ∧ (l ≠ [] → p = some ⟨g, 0, none⟩) ∧
  ∀ (i : Nat) (hi : i < l.length), w.cell? ⟨g, i * 2, none⟩ = some (I l[i].1) ∧ w.cell? ⟨g, i * 2 + 1, none⟩ = some (S l[i].2)
theorem PsAt.same {w w' : World} {v : Value} {l : VL} (h : PsAt w v l) (k : Kept [] w w') : PsAt w' v l := by
  obtain ⟨p, c, g, rfl, hp, hc⟩ := h
  exact ⟨p, c, g, rfl, hp, fun i hi => ⟨k.cellOf (hc i hi).1, k.cellOf (hc i hi).2⟩⟩
theorem PsAt.kept {w w' : World} {T : List Nat} {v : Value} {l : VL} (h : PsAt w v l) (k : Kept T w w') (hT : ∀ q, v.ownBlock = some q → q ∉ T) : PsAt w' v l := by
  obtain ⟨p, c, g, rfl, hp, hc⟩ := h
  refine ⟨p, c, g, rfl, hp, fun i hi => ?_⟩
  have hne : l ≠ [] := by intro h; rw [h] at hi; simp at hi
  have e := hp hne
  subst e
  have hg := hT g rfl
  obtain ⟨d1, d2⟩ := hc i hi
  exact ⟨(k.cell (p := ⟨g, i * 2, none⟩) (World.block_lt_of_cell? w _ d1) hg).trans d1, (k.cell (p := ⟨g, i * 2 + 1, none⟩) (World.block_lt_of_cell? w _ d2) hg).trans d2⟩
theorem PsAt.nil (w : World) : PsAt w (.slice none 0 0) [] := ⟨none, 0, 0, rfl, fun h => absurd rfl h, fun i hi => by simp at hi⟩
set_option maxHeartbeats 2000000 in
theorem rsum_any (w : World) (v : Value) (l : VL) (h : PsAt w v l) (hl : l.length ≤ 100000) (hv : ∀ p ∈ l, p.2.length ≤ 256) :
    Calls Tryz.prog 32 #[v] w fun e w' => e = .returned (I (sumA wF l : Nat)) ∧ w' = w := by
  obtain ⟨p, c, g, rfl, hp, hc⟩ := h
  have hlI : (l.length : Int) ≤ 100000 := by omega
  have HC := Lib.hid (And.intro hc (And.intro hp hv))
  have HS : Hid (∀ i (hi : i < l.length), sumA wF (l.take (i + 1)) = sumA wF (l.take i) + pagesF (7 + l[i].2.length)) := Lib.hid (fun i hi => by
    have : ∀ (a : VL) (x : Int × List UInt8), sumA wF (a ++ [x]) = sumA wF a + wF x.2 := fun a x => by
      induction a with
      | nil => simp [sumA]
      | cons y a ih => simp only [List.cons_append, sumA, ih]; omega
    rw [List.take_add_one, List.getElem?_eq_getElem hi]
    exact this _ _)
  have HB : Hid (∀ n, n ≤ 256 → pagesF (7 + n) ≤ 7) := Lib.hid (fun n hn => by unfold pagesF; split <;> omega)
  clear hc hp hv
  go_enter Tryz.func32, Tryz.ntmps32
  go_wp2_with (fail)
  go_loopw [3, 4] (fun v3 v4 wr => ∃ i x : Nat, i ≤ l.length ∧ v4 = I i ∧ v3 = I x ∧ x = sumA wF (l.take i) ∧ x ≤ 7 * i ∧ wr = w) (fun _ v4 _ => l.length - (intOf v4).toNat)
  case atStart => exact ⟨0, 0, by omega, rfl, rfl, rfl, by omega, rfl⟩
  case round =>
    obtain ⟨i, x, hi, rfl, rfl, hx, hx7, hw⟩ := hrel
    subst hw
    by_cases hlt : i < l.length
    · obtain ⟨hc, hp, hv⟩ := HC.out
      have hpe := hp (by intro h; rw [h] at hlt; simp at hlt)
      subst hpe
      have hltI : (i : Int) < l.length := by omega
      obtain ⟨d1, d2⟩ := hc i hlt
      have hvl := hv l[i] (List.getElem_mem hlt)
      have hst := HS.out i hlt
      obtain ⟨vl, hvl2⟩ : ∃ vl, l[i].2 = vl := ⟨_, rfl⟩
      rw [hvl2] at d2 hvl hst
      have HW := Lib.hid (rweight_any vl.length hvl wr)
      have hpb := HB.out _ hvl
      obtain ⟨pw, hpw⟩ : ∃ pw, pagesF (7 + vl.length) = pw := ⟨_, rfl⟩
      rw [hpw] at HW hst hpb
      have hxI : (x : Int) ≤ 700000 := by omega
      have hpI : (pw : Int) ≤ 7 := by omega
      have HX := Lib.hid (And.intro hst hx)
      clear hc hp hv hvl2 hpw hst hx d1
      go_wp2_with (fail)
      refine HW.out.mono ?_
      rintro e w1 ⟨rfl, hw⟩
      replace hw := hw.symm
      subst hw
      go_wp2_with (fail)
      go_roundw
      case rel => exact ⟨i + 1, x + pw, by omega, by go_num, by go_num, by rw [HX.out.1, HX.out.2], by omega, by first | rfl | trivial⟩
      case measure => simp [intOf]; omega
    · have hie : i = l.length := by omega
      subst hie
      rw [List.take_length] at hx
      have HX := Lib.hid hx
      clear hx
      go_wp2_with (fail)
      go_ret
      exact ⟨by first | rfl | (rw [HX.out]; rfl), rfl⟩
/-! ### The document's With -/
theorem pair_info : (Tryz.prog.info? 73).map (fun i => (i.zero, i.size, i.bytes)) = some (some (.agg #[.int .i64 0, .string ⟨#[]⟩]), 2, 24) := by kernel_rfl
theorem ps_of_own {w : World} {B : Nat} {v : Value} {l : VL} (h : w.ownsRow B 73 2 v l.length (pairCells l)) : PsAt w v l ∧ (∀ q, v.ownBlock = some q → B ≤ q) := by
  refine ⟨?_, fun q hq => (own_lt h q hq).1⟩
  rcases h.2 with ⟨rfl, h0⟩ | ⟨g, cap, cur, rfl, hb, hg, hcap, hmax, hsz, hex⟩
  · have hl : l = [] := by
      cases l with
      | nil => rfl
      | cons p l => simp at h0
    subst hl
    exact PsAt.nil w
  · refine ⟨some ⟨g, 0, none⟩, cap, g, rfl, fun _ => rfl, fun i hi => ?_⟩
    obtain ⟨q1, q2⟩ := pairCells_at l i hi
    rw [cell_at hg, cell_at hg]
    rw [← hex] at q1 q2
    constructor
    · rw [← q1, List.getElem?_take_of_lt (by omega), Array.getElem?_toList]
    · rw [← q2, List.getElem?_take_of_lt (by omega), Array.getElem?_toList]
set_option maxHeartbeats 8000000 in
theorem rwith_any (w : World) (v : Value) (L : VL) (h : PsAt w v L) (hL : L.length ≤ 100000) (cv : Value) (l : List Ch) (hc : ChsAt w cv l) (hl : l.length ≤ 1000) :
    Calls Tryz.prog 20 #[v, cv] w fun e w' => ∃ v', e = .returned v' ∧ w'.ownsRow w.heap.size 73 2 v' (withV l L).length (pairCells (withV l L)) ∧ Kept [] w w' := by
  obtain ⟨p, c, g, rfl, hp, hpc⟩ := h
  obtain ⟨p2, c2, b, o, rfl, hp2, hcc⟩ := hc
  have hLI : (L.length : Int) ≤ 100000 := by omega
  have hlI : (l.length : Int) ≤ 1000 := by omega
  have HC := Lib.hid (And.intro hp (And.intro hpc (And.intro hp2 hcc)))
  obtain ⟨i0, hi, hz0, hz1, hz2⟩ := info_parts pair_info
  have HI := Lib.hid (And.intro hi (And.intro hz0 (And.intro hz1 hz2)))
  clear hp hpc hp2 hcc hi hz0 hz1 hz2
  go_enter Tryz.func20, Tryz.ntmps20
  go_wp2_with (fail)
  go_loopw [5, 6, 7] (fun v5 v6 v7 wr => ∃ (i k : Nat) (done : VL), v6 = I i ∧ v7 = I k ∧ i ≤ L.length ∧ k ≤ l.length ∧ withV l L = done ++ withV (l.drop k) (L.drop i) ∧ wr.ownsRow w.heap.size 73 2 v5 done.length (pairCells done) ∧ done.length ≤ i + k ∧ Kept [] w wr) (fun _ v6 v7 _ => L.length + l.length - (intOf v6).toNat - (intOf v7).toNat)
  case atStart => exact ⟨0, 0, [], rfl, rfl, Nat.zero_le _, Nat.zero_le _, rfl, ⟨rfl, .inr ⟨w.heap.size, 0, #[], rfl, Nat.le_refl _, heap_new w _, Nat.le_refl _, Nat.zero_le _, rfl, rfl⟩⟩, Nat.zero_le _, (Kept.refl [] w).alloc _⟩
  case round =>
    obtain ⟨i, k, done, rfl, rfl, hi, hk, hw, own, hdl, kr⟩ := hrel
    have hiI : (i : Int) ≤ L.length := by omega
    have hkI : (k : Int) ≤ l.length := by omega
    obtain ⟨pd, cd, rfl⟩ := own_form own
    have HW := Lib.hid (And.intro hw (And.intro own (And.intro hdl kr)))
    obtain ⟨hp, hpc, hp2, hcc⟩ := HC.out
    have cL : ∀ (hlt : i < L.length), p = some ⟨g, 0, none⟩ ∧ wr.cell? ⟨g, i * 2, none⟩ = some (I L[i].1) ∧ wr.cell? ⟨g, i * 2 + 1, none⟩ = some (S L[i].2) := fun hlt => ⟨hp (by intro h; rw [h] at hlt; simp at hlt), kr.cellOf (hpc i hlt).1, kr.cellOf (hpc i hlt).2⟩
    have cl : ∀ (hlt : k < l.length), p2 = some ⟨b, o, none⟩ ∧ wr.cell? ⟨b, o + k * 3, none⟩ = some (I l[k].key) ∧ wr.cell? ⟨b, o + k * 3 + 1, none⟩ = some (S l[k].val) ∧ wr.cell? ⟨b, o + k * 3 + 2, none⟩ = some (.bool l[k].drop) := fun hlt => ⟨hp2 (by intro h; rw [h] at hlt; simp at hlt), kr.cellOf (hcc k hlt).1, kr.cellOf (hcc k hlt).2.1, kr.cellOf (hcc k hlt).2.2⟩
    have hst := with_step l L i k
    clear hp hpc hp2 hcc own kr hw hdl
    by_cases hend : L.length ≤ i ∧ l.length ≤ k
    · obtain ⟨he1, he2⟩ := hend
      have e1 : ¬ (i : Int) < L.length := by omega
      have e2 : ¬ (k : Int) < l.length := by omega
      have e3 : withV l L = done := by
        rw [HW.out.1, hst, dif_neg (by omega), List.drop_of_length_le (by omega), List.append_nil]
      have HE := Lib.hid e3
      clear hst cL cl e3 he1 he2
      go_wp2_with (fail)
      go_ret
      exact ⟨_, rfl, by rw [HE.out]; exact HW.out.2.1, HW.out.2.2.2⟩
    · by_cases hA : l.length ≤ k ∨ ∃ (hk : k < l.length) (hi : i < L.length), L[i].1 < l[k].key
      · have hil : i < L.length := by
          rcases hA with h | ⟨_, h, _⟩
          · omega
          · exact h
        obtain ⟨hpe, x1, x2⟩ := cL hil
        subst hpe
        have hilI : (i : Int) < L.length := by omega
        have hdr : withV l L = (done ++ [L[i]]) ++ withV (l.drop k) (L.drop (i + 1)) := by
          rw [HW.out.1, hst]
          rcases hA with h | ⟨h1, h2, h3⟩
          · rw [dif_neg (by omega), List.drop_eq_getElem_cons hil, List.append_assoc, List.drop_of_length_le h]; rfl
          · rw [dif_pos h1, dif_pos h2, if_pos h3, List.append_assoc]; rfl
        obtain ⟨⟨a1, a2⟩, ha⟩ : ∃ x, L[i] = x := ⟨_, rfl⟩
        rw [ha] at x1 x2 hdr
        have HDR := Lib.hid hdr
        simp only at x1 x2
        have hA2 : l.length ≤ k ∨ (k < l.length ∧ ∃ y, p2 = some ⟨b, o, none⟩ ∧ wr.cell? ⟨b, o + k * 3, none⟩ = some (I y) ∧ a1 < y) := by
          rcases hA with h | ⟨h1, h2, h3⟩
          · exact .inl h
          · obtain ⟨q1, q2, _⟩ := cl h1
            rw [ha] at h3
            exact .inr ⟨h1, _, q1, q2, h3⟩
        obtain ⟨hi0, hz0, hz1, hz2⟩ := HI.out
        clear hst cL cl hA ha hdr hend
        rcases hA2 with hkl | ⟨hkl, y, rfl, y1, hy⟩
        · have hklI : (l.length : Int) ≤ k := by omega
          have hkd : decide ((k : Int) < l.length) = false := decide_eq_false (by omega)
          have hkd2 : decide (k < l.length) = false := decide_eq_false (by omega)
          have hkd3 : decide ((l.length : Int) ≤ k) = true := decide_eq_true hklI
          go_wp2_with (fail)
          go_quiet (fail)
          go_wp2_with (first
        | (at_builtin
           refine wpList_append_lies _ rfl (.tmp 42) (.tmp 47) _ rfl w.heap.size 73 i0 (.agg #[.int .i64 0, .string ⟨#[]⟩]) 2 24 Tryz.underlying40 hi0 hz0 hz1 hz2 rfl (by decide) (.slice pd done.length cd) done.length (pairCells done) rfl (own_kept HW.out.2.1 (((Kept.refl [] wr).drewN nq).alloc _) (by simp)) ⟨(wr.drewN nq).heap.size, 0, none⟩ 1 1 [I a1, S a2] rfl rfl (World.news_of_block (heap_new (wr.drewN nq) _)) (by intro u hu; simp at hu; rcases hu with rfl | rfl <;> rfl) (by omega) (by have := HW.out.2.2.1; unfold maxLen; omega) (by have := HW.out.2.2.1; omega) (by rw [World.size_alloc]; have := HW.out.2.2.2.size; show w.heap.size ≤ wr.heap.size + 1; omega) _ rfl ?_
           intro g1 cap1 wa own1 gr1 hat1 hlt1
           have HA := Lib.hid (And.intro own1 gr1)
           clear own1 gr1 hat1 hlt1))
          go_roundw
          case rel =>
            obtain ⟨own1, gr1⟩ := HA.out
            obtain ⟨hw, own, hdl, kr⟩ := HW.out
            refine ⟨i + 1, k, done ++ [(a1, a2)], by go_num, rfl, by omega, by omega, HDR.out, ?_, by rw [List.length_append]; simp; omega, ?_⟩
            · rw [pairCells_app, List.length_append]; exact own1
            · exact kr.new ((((Kept.refl [] wr).drewN nq).alloc _).mono (by simp) |>.trans' (kept_grown gr1)) (fun x hx => (own_lt own x (by simpa using hx)).1)
          case measure => simp [intOf]; omega
        · have hklI : (k : Int) < l.length := by omega
          have hkd3 : decide ((l.length : Int) ≤ k) = false := decide_eq_false (by omega)
          have hyd : decide (a1 < y) = true := decide_eq_true hy
          go_wp2_with (fail)
          go_quiet (fail)
          go_wp2_with (first
        | (at_builtin
           refine wpList_append_lies _ rfl (.tmp 42) (.tmp 47) _ rfl w.heap.size 73 i0 (.agg #[.int .i64 0, .string ⟨#[]⟩]) 2 24 Tryz.underlying40 hi0 hz0 hz1 hz2 rfl (by decide) (.slice pd done.length cd) done.length (pairCells done) rfl (own_kept HW.out.2.1 (((Kept.refl [] wr).drewN nq).alloc _) (by simp)) ⟨(wr.drewN nq).heap.size, 0, none⟩ 1 1 [I a1, S a2] rfl rfl (World.news_of_block (heap_new (wr.drewN nq) _)) (by intro u hu; simp at hu; rcases hu with rfl | rfl <;> rfl) (by omega) (by have := HW.out.2.2.1; unfold maxLen; omega) (by have := HW.out.2.2.1; omega) (by rw [World.size_alloc]; have := HW.out.2.2.2.size; show w.heap.size ≤ wr.heap.size + 1; omega) _ rfl ?_
           intro g1 cap1 wa own1 gr1 hat1 hlt1
           have HA := Lib.hid (And.intro own1 gr1)
           clear own1 gr1 hat1 hlt1))
          go_roundw
          case rel =>
            obtain ⟨own1, gr1⟩ := HA.out
            obtain ⟨hw, own, hdl, kr⟩ := HW.out
            refine ⟨i + 1, k, done ++ [(a1, a2)], by go_num, rfl, by omega, by omega, HDR.out, ?_, by rw [List.length_append]; simp; omega, ?_⟩
            · rw [pairCells_app, List.length_append]; exact own1
            · exact kr.new ((((Kept.refl [] wr).drewN nq).alloc _).mono (by simp) |>.trans' (kept_grown gr1)) (fun x hx => (own_lt own x (by simpa using hx)).1)
          case measure => simp [intOf]; omega
      · have hkl : k < l.length := by
          apply Decidable.byContradiction
          intro h
          exact hA (.inl (by omega))
        obtain ⟨hpe, y0, y1, y2⟩ := cl hkl
        subst hpe
        have hklI : (k : Int) < l.length := by omega
        have hkd3 : decide ((l.length : Int) ≤ k) = false := decide_eq_false (by omega)
        have hcase : (i < L.length ∧ p = some ⟨g, 0, none⟩ ∧ wr.cell? ⟨g, i * 2, none⟩ = some (I l[k].key) ∧ withV l L = (done ++ emitV l[k]) ++ withV (l.drop (k + 1)) (L.drop (i + 1))) ∨
            (∃ x, i < L.length ∧ p = some ⟨g, 0, none⟩ ∧ wr.cell? ⟨g, i * 2, none⟩ = some (I x) ∧ l[k].key < x ∧ withV l L = (done ++ emitV l[k]) ++ withV (l.drop (k + 1)) (L.drop i)) ∨
            (L.length ≤ i ∧ withV l L = (done ++ emitV l[k]) ++ withV (l.drop (k + 1)) (L.drop i)) := by
          rw [dif_pos hkl] at hst
          by_cases hil : i < L.length
          · obtain ⟨q1, q2, _⟩ := cL hil
            have hn : ¬ L[i].1 < l[k].key := fun h => hA (.inr ⟨hkl, hil, h⟩)
            rw [dif_pos hil, if_neg hn] at hst
            by_cases he : L[i].1 = l[k].key
            · rw [if_pos he] at hst
              rw [he] at q2
              exact .inl ⟨hil, q1, q2, by rw [HW.out.1, hst, List.append_assoc]⟩
            · rw [if_neg he] at hst
              exact .inr (.inl ⟨_, hil, q1, q2, by omega, by rw [HW.out.1, hst, List.append_assoc]⟩)
          · rw [dif_neg hil] at hst
            exact .inr (.inr ⟨by omega, by rw [HW.out.1, hst, List.append_assoc]⟩)
        obtain ⟨⟨ky, vl, dr⟩, hx⟩ : ∃ x, l[k] = x := ⟨_, rfl⟩
        rw [hx] at y0 y1 y2 hcase
        simp only at y0 y1 y2 hcase
        obtain ⟨hi0, hz0, hz1, hz2⟩ := HI.out
        have hkN : k < l.length := hkl
        clear hst cL cl hA hx hend hkl
        rcases hcase with ⟨hil, rfl, x1, hdr⟩ | ⟨x, hil, rfl, x1, hgt, hdr⟩ | ⟨hil, hdr⟩
        · have hilI : (i : Int) < L.length := by omega
          have HDR := Lib.hid hdr
          clear hdr
          cases dr with
          | true =>
            go_wp2_with (fail)
            go_quiet (fail)
            go_wp2_with (fail)
            go_quiet (fail)
            go_wp2_with (fail)
            go_roundw
            case rel =>
              obtain ⟨hw, own, hdl, kr⟩ := HW.out
              refine ⟨i + 1, k + 1, done, by go_num, by go_num, by omega, by omega, ?_, own_kept own ((Kept.refl [] wr).drewN _) (by simp), by omega, kr.drewN _⟩
              rw [HDR.out]; simp [emitV]
            case measure => simp [intOf]; omega
          | false =>
            go_wp2_with (fail)
            go_quiet (fail)
            go_wp2_with (fail)
            go_quiet (fail)
            go_wp2_with (fail)
            go_region_law (first
            | (refine step_append_lies _ rfl (.tmp 76) (.tmp 88) 40 rfl w.heap.size 73 i0 (.agg #[.int .i64 0, .string ⟨#[]⟩]) 2 24 Tryz.underlying40 hi0 hz0 hz1 hz2 rfl (by decide) (.slice pd done.length cd) done.length (pairCells done) (by simp [Act.eval, Act.put]) (by exact own_kept HW.out.2.1 (((Kept.refl [] wr).drewN _).alloc _) (by simp)) ⟨wr.heap.size, 0, none⟩ 1 1 [I ky, S vl] (by simp [Act.eval, Act.put]) rfl (by exact World.news_of_block (heap_new (wr.drewN _) _)) (by intro u hu; simp at hu; rcases hu with rfl | rfl <;> rfl) (by decide) (by have := HW.out.2.2.1; unfold maxLen; omega) (by have := HW.out.2.2.1; omega) (by have := HW.out.2.2.2.size; exact Nat.le_trans this (((Kept.refl [] wr).drewN _).alloc _).size) _ rfl ?_
               intro g1 cap1 wa own1 gr1 hat1 hlt1
               have HA := Lib.hid (And.intro own1 gr1)
               clear own1 gr1 hat1 hlt1))
            all_goals
              go_wp2
              go_roundw
              case rel =>
                obtain ⟨own1, gr1⟩ := HA.out
                obtain ⟨hw, own, hdl, kr⟩ := HW.out
                refine ⟨i + 1, k + 1, done ++ [(ky, vl)], by go_num, by go_num, by omega, by omega, by rw [HDR.out]; simp [emitV], ?_, by rw [List.length_append]; simp; omega, ?_⟩
                · rw [pairCells_app, List.length_append]; exact own1
                · exact kr.new ((((Kept.refl [] wr).drewN _).alloc _).mono (by simp) |>.trans' (kept_grown gr1)) (fun x hx => (own_lt own x (by simpa using hx)).1)
              case measure => simp [intOf]; omega
        · have hilI : (i : Int) < L.length := by omega
          have hnl : ¬ x < ky := by omega
          have hld : decide (x < ky) = false := decide_eq_false hnl
          have hne : ¬ x = ky := by omega
          have hnb : (x == ky) = false := by simpa using hne
          have HDR := Lib.hid hdr
          clear hdr
          cases dr with
          | true =>
            go_wp2_with (fail)
            go_quiet (fail)
            go_wp2_with (fail)
            go_quiet (fail)
            go_wp2_with (fail)
            go_roundw
            case rel =>
              obtain ⟨hw, own, hdl, kr⟩ := HW.out
              refine ⟨i, k + 1, done, rfl, by go_num, by omega, by omega, ?_, own_kept own ((Kept.refl [] wr).drewN _) (by simp), by omega, kr.drewN _⟩
              rw [HDR.out]; simp [emitV]
            case measure => simp [intOf]; omega
          | false =>
            go_wp2_with (fail)
            go_quiet (fail)
            go_wp2_with (fail)
            go_quiet (fail)
            go_wp2_with (fail)
            go_region_law (first
            | (refine step_append_lies _ rfl (.tmp 76) (.tmp 88) 40 rfl w.heap.size 73 i0 (.agg #[.int .i64 0, .string ⟨#[]⟩]) 2 24 Tryz.underlying40 hi0 hz0 hz1 hz2 rfl (by decide) (.slice pd done.length cd) done.length (pairCells done) (by simp [Act.eval, Act.put]) (by exact own_kept HW.out.2.1 (((Kept.refl [] wr).drewN _).alloc _) (by simp)) ⟨wr.heap.size, 0, none⟩ 1 1 [I ky, S vl] (by simp [Act.eval, Act.put]) rfl (by exact World.news_of_block (heap_new (wr.drewN _) _)) (by intro u hu; simp at hu; rcases hu with rfl | rfl <;> rfl) (by decide) (by have := HW.out.2.2.1; unfold maxLen; omega) (by have := HW.out.2.2.1; omega) (by have := HW.out.2.2.2.size; exact Nat.le_trans this (((Kept.refl [] wr).drewN _).alloc _).size) _ rfl ?_
               intro g1 cap1 wa own1 gr1 hat1 hlt1
               have HA := Lib.hid (And.intro own1 gr1)
               clear own1 gr1 hat1 hlt1))
            all_goals
              go_wp2
              go_roundw
              case rel =>
                obtain ⟨own1, gr1⟩ := HA.out
                obtain ⟨hw, own, hdl, kr⟩ := HW.out
                refine ⟨i, k + 1, done ++ [(ky, vl)], rfl, by go_num, by omega, by omega, by rw [HDR.out]; simp [emitV], ?_, by rw [List.length_append]; simp; omega, ?_⟩
                · rw [pairCells_app, List.length_append]; exact own1
                · exact kr.new ((((Kept.refl [] wr).drewN _).alloc _).mono (by simp) |>.trans' (kept_grown gr1)) (fun x hx => (own_lt own x (by simpa using hx)).1)
              case measure => simp [intOf]; omega
        · obtain rfl : i = L.length := by omega
          have hkd4 : decide (l.length ≤ k) = false := decide_eq_false (by omega)
          clear hil hi hiI
          have HDR := Lib.hid hdr
          clear hdr
          cases dr with
          | true =>
            go_wp2_with (fail)
            go_quiet (fail)
            go_wp2_with (fail)
            go_quiet (fail)
            go_wp2_with (fail)
            go_roundw
            case rel =>
              obtain ⟨hw, own, hdl, kr⟩ := HW.out
              refine ⟨L.length, k + 1, done, rfl, by go_num, Nat.le_refl _, by omega, ?_, own_kept own ((Kept.refl [] wr).drewN _) (by simp), by omega, kr.drewN _⟩
              rw [HDR.out]; simp [emitV]
            case measure => simp [intOf]; omega
          | false =>
            go_wp2_with (fail)
            go_quiet (fail)
            go_wp2_with (fail)
            go_quiet (fail)
            go_wp2_with (fail)
            go_region_law (first
            | (refine step_append_lies _ rfl (.tmp 76) (.tmp 88) 40 rfl w.heap.size 73 i0 (.agg #[.int .i64 0, .string ⟨#[]⟩]) 2 24 Tryz.underlying40 hi0 hz0 hz1 hz2 rfl (by decide) (.slice pd done.length cd) done.length (pairCells done) (by simp [Act.eval, Act.put]) (by exact own_kept HW.out.2.1 (((Kept.refl [] wr).drewN _).alloc _) (by simp)) ⟨wr.heap.size, 0, none⟩ 1 1 [I ky, S vl] (by simp [Act.eval, Act.put]) rfl (by exact World.news_of_block (heap_new (wr.drewN _) _)) (by intro u hu; simp at hu; rcases hu with rfl | rfl <;> rfl) (by decide) (by have := HW.out.2.2.1; unfold maxLen; omega) (by have := HW.out.2.2.1; omega) (by have := HW.out.2.2.2.size; exact Nat.le_trans this (((Kept.refl [] wr).drewN _).alloc _).size) _ rfl ?_
               intro g1 cap1 wa own1 gr1 hat1 hlt1
               have HA := Lib.hid (And.intro own1 gr1)
               clear own1 gr1 hat1 hlt1))
            all_goals
              go_wp2
              go_roundw
              case rel =>
                obtain ⟨own1, gr1⟩ := HA.out
                obtain ⟨hw, own, hdl, kr⟩ := HW.out
                refine ⟨L.length, k + 1, done ++ [(ky, vl)], rfl, by go_num, Nat.le_refl _, by omega, by rw [HDR.out]; simp [emitV], ?_, by rw [List.length_append]; simp; omega, ?_⟩
                · rw [pairCells_app, List.length_append]; exact own1
                · exact kr.new ((((Kept.refl [] wr).drewN _).alloc _).mono (by simp) |>.trans' (kept_grown gr1)) (fun x hx => (own_lt own x (by simpa using hx)).1)
              case measure => simp [intOf]; omega

end Go.Proofs.YtncdfaocemfgfaaGreat
