/- Walks and lemmas on the program of this seat, used by its statements; each theorem bears its own conditions. -/
import Derived.Test.YteplbljjlbdhaaaGreatDoorZ11
import Derived.Shelf.SlIterI.Nil
import Derived.Shelf.SlGeneric
import Derived.Lib.MakeNoZero
namespace Go.Proofs.YteplbljjlbdhaaaGreatDoor
open Go.RowKit
set_option linter.unusedVariables false
set_option linter.unusedSimpArgs false
set_option linter.unusedSectionVars false
set_option maxHeartbeats 16000000
set_option maxRecDepth 100000
def sgs (n : Nat) : Nat → List (List (List Ch)) → List Sg
 | _, [] => []
 | D, _ :: t => (D % n, D + 1) :: sgs n (D + 1) t
theorem sgs_len (n : Nat) : ∀ (l : List (List (List Ch))) (D : Nat), (sgs n D l).length = l.length
 | [], _ => rfl
 | _ :: t, D => by simp [sgs, sgs_len n t]
theorem sgs_append (n : Nat) : ∀ (a b : List (List (List Ch))) (D : Nat), sgs n D (a ++ b) = sgs n D a ++ sgs n (D + a.length) b
 | [], b, D => rfl
 | x :: a, b, D => by
  simp only [List.cons_append, sgs, List.length_cons, sgs_append n a b (D + 1)]
  rw [show D + 1 + a.length = D + (a.length + 1) by omega]
theorem sgs_at (n : Nat) : ∀ (l : List (List (List Ch))) (D i : Nat) (h : i < (sgs n D l).length), (sgs n D l)[i] = ((D + i) % n, D + i + 1)
 | [], D, i, h => by simp [sgs] at h
 | x :: t, D, i, h => by
  cases i with
  | zero => rfl
  | succ i =>
   have h' : i < (sgs n (D + 1) t).length := by simpa [sgs] using h
   have := sgs_at n t (D + 1) i h'
   show (sgs n (D + 1) t)[i]'h' = _
   rw [this, show D + 1 + i = D + (i + 1) by omega]
theorem sgs_snoc (n D : Nat) (a : List (List (List Ch))) (x : List (List Ch)) : sgs n D (a ++ [x]) = sgs n D a ++ [((D + a.length) % n, D + a.length + 1)] := by rw [sgs_append]; rfl
theorem sgs_nums (n : Nat) : ∀ (l : List (List (List Ch))) (D : Nat), (sgs n D l).map (·.2) = (List.range l.length).map (D + · + 1)
 | [], D => rfl
 | x :: t, D => by
  simp only [sgs, List.map_cons, List.length_cons, List.range_succ_eq_map, sgs_nums n t (D + 1), List.map_map]
  congr 1
  apply List.map_congr_left
  intro i _
  simp only [Function.comp]
  omega
def FlOK (n : Nat) (f : Fl) (st : St) : Prop := ∀ j, j < n → blockOf f.bs (1 + (st.D + j) % n) = match st.segs[j]? with | some rs => segB (st.D + j + 1) (rs.map recF) | none => fullB
theorem mod_ne {n D i j : Nat} (hi : i < n) (hj : j < n) (h : i ≠ j) : (D + i) % n ≠ (D + j) % n := by
 intro e
 have a := Nat.div_add_mod (D + i) n
 have b := Nat.div_add_mod (D + j) n
 rw [e] at a
 have h1 : n * ((D + i) / n) + j = n * ((D + j) / n) + i := by omega
 rcases Nat.lt_trichotomy ((D + i) / n) ((D + j) / n) with hl | hl | hl
 ·have := Nat.mul_le_mul_left n hl
  rw [Nat.mul_succ] at this
  omega
 ·rw [hl] at h1; omega
 ·have := Nat.mul_le_mul_left n hl
  rw [Nat.mul_succ] at this
  omega
theorem mod_succ {n D i : Nat} : ((D + i) % n + 1) % n = (D + (i + 1)) % n := by rw [Nat.mod_add_mod, Nat.add_assoc]
def CtOK (st : St) (C : List (Int × Nat)) : Prop :=
 (∀ j rs, st.segs[j]? = some rs → (findA C ((st.D + j + 1 : Nat) : Int)).getD 0 = rs.length) ∧ (∀ k : Int, (k ≤ st.D ∨ ((st.D + st.segs.length : Nat) : Int) < k) → findA C k = none)
theorem sorted_few {α : Type} : ∀ (C : List (Int × α)) (a : Int) (m : Nat), SortedA C → (∀ p ∈ C, a ≤ p.1 ∧ p.1 < a + m) → C.length ≤ m
 | [], _, _, _, _ => Nat.zero_le _
 | p :: t, a, m, hs, h => by
  obtain ⟨h1, h2⟩ := List.pairwise_cons.1 hs
  have hp := h p (by simp)
  have := sorted_few t (p.1 + 1) (a + m - (p.1 + 1)).toNat h2 (fun q hq => by have := h1 q hq; have := h q (by simp [hq]); omega)
  simp only [List.length_cons]
  omega
theorem ct_few {st : St} {C : List (Int × Nat)} (h : CtOK st C) (hs : SortedA C) : C.length ≤ st.segs.length := by
 refine sorted_few C (st.D + 1) _ hs fun p hp => ?_
 have hf := find_of_mem hs (k := p.1) (o := p.2) hp
 have h2 := h.2 p.1
 apply Classical.byContradiction
 intro hn
 rw [h2 (by omega)] at hf
 cases hf
theorem segs_len (st : St) : st.segs.length = st.init.length + 1 := by simp [St.segs]
theorem segs_last (st : St) : st.segs[st.init.length]? = some st.last := by simp [St.segs]
theorem vals_of {n : Nat} {st : St} (h : InvS n st) : Vals256 st.M := by
 intro k o ho
 obtain ⟨l, ⟨j, rs, h1, h2, h3⟩, hin⟩ := h.placed k o ho
 exact ((h.recs rs (List.mem_of_getElem? h1)).2 l (List.mem_of_getElem? h3)).2.1 _ hin |>.2.2.1
theorem ct_app {st : St} {C : List (Int × Nat)} (h : CtOK st C) (hs : SortedA C) (l : List Ch) : (findA C ((putSeg st l : Nat) : Int)).getD 0 = putPos st l ∧ CtOK (appS st l) (insA (delA C ((putSeg st l : Nat) : Int)) ((putSeg st l : Nat) : Int) (putPos st l + 1)) := by
  have hf : ∀ (k j : Int) (x : Nat), findA (insA (delA C k) k x) j = if j = k then some x else findA C j := by
    intro k j x
    rw [find_ins _ _ _ (by rw [find_del hs, if_pos rfl]), find_del hs]
    by_cases hj : j = k
    · rw [if_pos hj, if_pos hj]
    · rw [if_neg hj, if_neg hj, if_neg hj]
  have hnum : st.num = st.D + st.init.length + 1 := rfl
  by_cases hfit : fitsS st l
  · have hp : putSeg st l = st.num := by unfold putSeg; rw [if_pos hfit]
    have hq : putPos st l = st.last.length := by unfold putPos; rw [if_pos hfit]
    rw [hp, hq]
    refine ⟨h.1 st.init.length st.last (segs_last st), ?_⟩
    rw [appS_fit hfit]
    have hsg : ({ st with last := st.last ++ [l], M := takesF st.M l st.num st.last.length } : St).segs = st.init ++ [st.last ++ [l]] := rfl
    refine ⟨fun j rs hj => ?_, fun k hk => ?_⟩
    · rw [hf]
      rw [hsg] at hj
      by_cases hji : j < st.init.length
      · rw [List.getElem?_append_left hji] at hj
        rw [if_neg (by show ¬ ((st.D + j + 1 : Nat) : Int) = ((st.num : Nat) : Int); omega)]
        exact h.1 j rs (by unfold St.segs; rw [List.getElem?_append_left hji]; exact hj)
      · rw [List.getElem?_append_right (by omega)] at hj
        have : j = st.init.length := by
          have := (List.getElem?_eq_some_iff.1 hj).1
          simp at this; omega
        subst this
        rw [if_pos (by rfl)]
        have : st.last ++ [l] = rs := by simpa using hj
        rw [← this]; simp
    · rw [hf, hsg] at *
      have hl : (st.init ++ [st.last ++ [l]]).length = st.segs.length := by simp [St.segs]
      rw [if_neg (by rcases hk with hk | hk
                     · show ¬ k = ((st.num : Nat) : Int); have : k ≤ (st.D : Int) := hk; omega
                     · rw [hl, segs_len] at hk; have : ((st.D + (st.init.length + 1) : Nat) : Int) < k := hk; show ¬ k = ((st.num : Nat) : Int); omega)]
      exact h.2 k (by rw [← hl]; exact hk)
  · have hp : putSeg st l = st.num + 1 := by unfold putSeg; rw [if_neg hfit]
    have hq : putPos st l = 0 := by unfold putPos; rw [if_neg hfit]
    rw [hp, hq]
    have hsl := segs_len st
    refine ⟨by rw [h.2 _ (.inr (by omega))]; rfl, ?_⟩
    rw [appS_new hfit]
    have hsg : ({ st with init := st.init ++ [st.last], last := [l], M := takesF st.M l (st.num + 1) 0 } : St).segs = st.segs ++ [[l]] := rfl
    refine ⟨fun j rs hj => ?_, fun k hk => ?_⟩
    · rw [hf]
      rw [hsg] at hj
      by_cases hji : j < st.segs.length
      · rw [List.getElem?_append_left hji] at hj
        rw [if_neg (by show ¬ ((st.D + j + 1 : Nat) : Int) = ((st.num + 1 : Nat) : Int); omega)]
        exact h.1 j rs hj
      · rw [List.getElem?_append_right (by omega)] at hj
        have : j = st.segs.length := by
          have := (List.getElem?_eq_some_iff.1 hj).1
          simp at this; omega
        subst this
        rw [if_pos (by show ((st.D + st.segs.length + 1 : Nat) : Int) = ((st.num + 1 : Nat) : Int); omega)]
        have : [l] = rs := by simpa using hj
        rw [← this]; rfl
    · rw [hf, hsg] at *
      rw [if_neg (by rcases hk with hk | hk
                     · have : k ≤ (st.D : Int) := hk; omega
                     · rw [List.length_append] at hk; have : ((st.D + (st.segs.length + 1) : Nat) : Int) < k := hk; omega)]
      exact h.2 k (by rcases hk with hk | hk
                      · exact .inl hk
                      · rw [List.length_append] at hk; have : ((st.D + (st.segs.length + 1) : Nat) : Int) < k := hk; exact .inr (by omega))
structure SAt (w : World) (sb lb pb fb bb cb mb kb n : Nat) (v : Value) (st : St) (f : Fl) : Prop where
 lg : LgAt w lb pb fb bb cb 1 n v (sgs n st.D st.segs) f false
 core : ∃ C, CoreAt w sb pb lb mb kb (sumA wO st.M) st.M C ∧ CtOK st C
 fl : FlOK n f st
 inv : InvS n st
 live : f.dead = false ∧ f.armed = 0
 sep : ∀ x, x ∈ [sb, mb, kb] → x ∉ LgT lb fb bb cb v ∧ x ≠ pb
def StT (sb lb fb bb cb mb kb : Nat) (v : Value) : List Nat := [sb, mb, kb] ++ LgT lb fb bb cb v
section
variable {w : World} {sb lb pb fb bb cb mb kb n : Nat} {v : Value} {st : St} {f : Fl}
theorem SAt.same {w' : World} (h : SAt w sb lb pb fb bb cb mb kb n v st f) (k : Kept [] w w') : SAt w' sb lb pb fb bb cb mb kb n v st f := by
 obtain ⟨C, h1, h2⟩ := h.core
 exact ⟨h.lg.same k, ⟨C, h1.same k, h2⟩, h.fl, h.inv, h.live, h.sep⟩
theorem SAt.kept {w' : World} {T : List Nat} (h : SAt w sb lb pb fb bb cb mb kb n v st f) (k : Kept T w w') (hT : ∀ x ∈ T, x ∉ StT sb lb fb bb cb mb kb v ∧ x ≠ pb) : SAt w' sb lb pb fb bb cb mb kb n v st f := by
 obtain ⟨C, h1, h2⟩ := h.core
 have hno : ∀ y, y ∈ StT sb lb fb bb cb mb kb v → y ∉ T := fun y hy hm => (hT y hm).1 hy
 refine ⟨h.lg.kept k (hno _ (by simp [StT, LgT])) (fun hm => (hT _ hm).2 rfl) (hno _ (by simp [StT, LgT])) (hno _ (by simp [StT, LgT])) (hno _ (by simp [StT, LgT])) (fun q hq => hno q (by simp [StT, LgT, hq])), ⟨C, h1.kept k (hno _ (by simp [StT])) (hno _ (by simp [StT])) (hno _ (by simp [StT])), h2⟩, h.fl, h.inv, h.live, h.sep⟩
theorem StT.subL {w' : World} (k : Kept (LgT lb fb bb cb v) w w') : Kept (StT sb lb fb bb cb mb kb v) w w' := k.mono (fun x hx => List.mem_append.2 (.inr hx))
theorem StT.subC {w' : World} (k : Kept [sb, mb, kb] w w') : Kept (StT sb lb fb bb cb mb kb v) w w' := k.mono (fun x hx => List.mem_append.2 (.inl hx))
theorem StT.sub0 {w' : World} (k : Kept [] w w') : Kept (StT sb lb fb bb cb mb kb v) w w' := k.mono (by simp)
end
theorem stold_any (w : World) (sb pb lb mb kb : Nat) (x : Int) (M : OM) (C : List (Int × Nat)) (h : CoreAt w sb pb lb mb kb x M C) (k : Int) (hk : (k == 2) = false) :
  Calls Tryz.prog 112 #[Ptr sb, I k] w fun e w' => e = .returned (I k) ∧ CoreAt w' sb pb lb mb kb x M C ∧ Kept [sb] w w' := by
 obtain ⟨c0, c1, c2, c3, c4, c5⟩ := h.cells
 have hf := h.free
 have H := Lib.hid h
 clear h
 go_enter Tryz.func112, Tryz.ntmps112
 go_wp2_with (fail)
 go_ret
 have kk : Kept [sb] w (w.setCell ⟨sb, 5, none⟩ (.bool false)) := (Kept.refl _ _).setCell (.inl (by simp)) _
 have hb := heap_setCell_at H.out.blk 5 (.bool false)
 refine ⟨rfl, ⟨by simpa using hb, H.out.ob.kept kk (by simpa using Ne.symm H.out.n1), H.out.ct.kept kk (by simpa using Ne.symm H.out.n2), H.out.n1, H.out.n2, H.out.n3⟩, kk⟩
theorem snewest_any (w : World) (sb lb pb fb bb cb n : Nat) (v : Value) (segs : List Sg) (f : Fl) (h : LgAt w lb pb fb bb cb 1 n v segs f false) (c1 : w.cell? ⟨sb, 1, none⟩ = some (Ptr lb)) (k num : Nat) (hsl : segs.length = k + 1) (hk : k ≤ 900) (hlast : (segs.map (·.2))[k]? = some num) : Calls Tryz.prog 152 #[Ptr sb] w fun e w' => e = .returned (I num) ∧ Kept [] w w' := by
 have HS := Lib.hid (segs_any w lb pb fb bb cb 1 n v _ f false h (by intro he; rw [he] at hsl; simp at hsl) (by rw [hsl]; omega))
 rw [hsl] at HS
 have hkI : (k : Int) ≤ 900 := by omega
 have hkI0 : (0 : Int) ≤ k := by omega
 have hr : Hid (∀ (W : World) (v' : Value), W.ownsRow (w.heap.size + 1) 3 1 v' (k + 1) ((segs.map (·.2)).map fun x : Nat => I x) → ∃ g c, v' = .slice (some ⟨g, 0, none⟩) (k + 1) c ∧ W.cell? ⟨g, k, none⟩ = some (I num)) := Lib.hid (by
  intro W v' ow
  obtain ⟨g, c, e, _, hc⟩ := row_cells1 ow (by omega)
  refine ⟨g, c, e, ?_⟩
  rw [hc k (by omega), List.getElem?_map, hlast]
  rfl)
 clear h hsl hk hlast
 go_enter Tryz.func152, Tryz.ntmps152
 go_wp2_with (fail)
 refine HS.out.mono ?_
 rintro e w1 ⟨v', rfl, own, k1⟩
 obtain ⟨g, c, rfl, hcell⟩ := hr.out w1 v' own
 have K1 := Lib.hid k1
 clear own k1
 go_wp2_with (fail)
 go_ret
 exact ⟨rfl, K1.out⟩
theorem last_few {n : Nat} {st : St} (h : InvS n st) : st.last.length ≤ 7 := by
 have h1 := (h.recs st.last (by simp [St.segs])).1
 have : ∀ rs : List (List Ch), rs.length ≤ usedS rs := fun rs => by
  induction rs with
  | nil => exact Nat.le_refl _
  | cons x t ih => have := pgs_pos x; simp only [List.length_cons, usedS]; omega
 have := this st.last
 omega
theorem fresh_mono {w w' : World} {v v' : Value} (h : Fresh w' v v') (hs : w.heap.size ≤ w'.heap.size) : Fresh w v v' := fun q hq => (h q hq).imp id (Nat.le_trans hs)
theorem LgAt.beside {w0 w w' : World} {sb lb pb fb bb cb mb kb fs n : Nat} {v v' : Value} {segs : List Sg} {f : Fl} {d : Bool} (h : LgAt w lb pb fb bb cb fs n v' segs f d) (k : Kept [sb, mb, kb] w w') (hfr : Fresh w0 v v') (hs : ∀ x ∈ [sb, mb, kb], x ∉ LgT lb fb bb cb v ∧ x ≠ pb) (hlt : ∀ x ∈ [sb, mb, kb], x < w0.heap.size) : LgAt w' lb pb fb bb cb fs n v' segs f d := by
 have hno : ∀ y, y ∈ LgT lb fb bb cb v → y ∉ [sb, mb, kb] := fun y hy hm => (hs y hm).1 hy
 refine h.kept k (hno _ (by simp [LgT])) (fun hm => (hs _ hm).2 rfl) (hno _ (by simp [LgT])) (hno _ (by simp [LgT])) (hno _ (by simp [LgT])) (fun q hq hm => ?_)
 rcases hfr q hq with h1 | h1
 ·exact hno q (by simp [LgT, h1]) hm
 ·have := hlt q hm; omega
theorem sep_fresh {w0 : World} {sb lb fb bb cb mb kb pb : Nat} {v v' : Value} (hfr : Fresh w0 v v') (hs : ∀ x, x ∈ [sb, mb, kb] → x ∉ LgT lb fb bb cb v ∧ x ≠ pb) (hlt : ∀ x ∈ [sb, mb, kb], x < w0.heap.size) : ∀ x, x ∈ [sb, mb, kb] → x ∉ LgT lb fb bb cb v' ∧ x ≠ pb := by
 intro x hx
 refine ⟨fun hm => ?_, (hs x hx).2⟩
 have h1 := (hs x hx).1
 simp only [LgT, List.mem_append, Option.mem_toList] at hm h1
 rcases hm with hm | hm
 ·exact h1 (.inl hm)
 ·rcases hfr x (by simpa using hm) with h2 | h2
  ·exact h1 (.inr (by simpa using h2))
  ·have := hlt x hx; omega
theorem ct_drop {st : St} {C : List (Int × Nat)} {rs0 : List (List Ch)} {t : List (List (List Ch))} (ht : st.init = rs0 :: t) (h : CtOK st C) (hs : SortedA C) : CtOK { st with D := st.D + 1, init := t } (delA C ((st.D + 1 : Nat) : Int)) := by
 have e : st.segs = rs0 :: (t ++ [st.last]) := by unfold St.segs; rw [ht]; rfl
 have hl : st.segs.length = (t ++ [st.last]).length + 1 := by rw [e]; rfl
 refine ⟨fun j rs hj => ?_, fun k hk => ?_⟩
 ·rw [find_del hs, if_neg (by show ¬ ((st.D + 1 + j + 1 : Nat) : Int) = ((st.D + 1 : Nat) : Int); omega)]
  have := h.1 (j + 1) rs (by rw [e, List.getElem?_cons_succ]; exact hj)
  rw [show st.D + (j + 1) + 1 = st.D + 1 + j + 1 by omega] at this
  exact this
 ·rw [find_del hs]
  by_cases hk1 : k = ((st.D + 1 : Nat) : Int)
  ·rw [if_pos hk1]
  ·rw [if_neg hk1]
   refine h.2 k ?_
   rcases hk with hk | hk
   ·have : k ≤ ((st.D + 1 : Nat) : Int) := hk
    exact .inl (by omega)
   ·have : ((st.D + 1 + (t ++ [st.last]).length : Nat) : Int) < k := hk
    exact .inr (by omega)
theorem fresh_trans {w w' : World} {v v' v'' : Value} (h : Fresh w v v') (h' : Fresh w' v' v'') (hs : w.heap.size ≤ w'.heap.size) : Fresh w v v'' := fun q hq => by
 rcases h' q hq with h1 | h1
 ·exact h q h1
 ·exact .inr (Nat.le_trans hs h1)
theorem stT_fresh {w0 : World} {sb lb fb bb cb mb kb : Nat} {v v' : Value} (h : Fresh w0 v v') : ∀ x ∈ StT sb lb fb bb cb mb kb v', x ∈ StT sb lb fb bb cb mb kb v ∨ w0.heap.size ≤ x := by
 intro x hx
 simp only [StT, LgT, List.mem_append, Option.mem_toList] at hx ⊢
 rcases hx with hx | hx | hx
 ·exact .inl (.inl hx)
 ·exact .inl (.inr (.inl hx))
 ·rcases h x (by simpa using hx) with h1 | h1
  ·exact .inl (.inr (.inr (by simpa using h1)))
  ·exact .inr h1
theorem stT_lt {w : World} {sb lb pb fb bb cb mb kb n : Nat} {v : Value} {st : St} {f : Fl} (h : SAt w sb lb pb fb bb cb mb kb n v st f) : (∀ x ∈ StT sb lb fb bb cb mb kb v, x < w.heap.size) ∧ pb < w.heap.size := by
 obtain ⟨C, hc, _⟩ := h.core
 refine ⟨fun x hx => ?_, lt_of_block h.lg.pt.blk⟩
 have := h.lg.lt
 have := h.lg.n2
 have := h.lg.n3
 have := h.lg.n4
 have := hc.lt
 have := hc.ob.lt
 have := hc.ct.lt
 simp only [StT, LgT, List.mem_append, Option.mem_toList] at hx
 rcases hx with hx | hx | hx
 ·simp at hx; omega
 ·simp at hx; omega
 ·exact (own_lt h.lg.own x (by simpa using hx)).2
theorem filter_nn (l : List Ch) (f : Ch → Bool) : (l.filter fun x => !(!f x)) = l.filter f := by simp
def quotaF (n : Nat) : Nat := 7 * (n - 4) / 2
def mayF (n : Nat) (M : OM) (l : List Ch) : Int := if formF l ≠ 0 then formF l else if 400 < (recF l).length then 151 else if (quotaF n : Int) < becW M l (sumA wO M) then 152 else 0
theorem oquota_any (w : World) (sb pb lb mb kb fb bb cb n : Nat) (x : Int) (M : OM) (C : List (Int × Nat)) (h : CoreAt w sb pb lb mb kb x M C) (f : Fl) (hp : PtAt w pb fb bb cb 1 n f) (hn : 8 ≤ n) :
  Calls Tryz.prog 70 #[Ptr sb] w fun e w' => e = .returned (I (quotaF n : Nat)) ∧ w' = w := by
 obtain ⟨c0, c1, c2, c3, c4, c5⟩ := h.cells
 have HS := Lib.hid (size_any w pb fb bb cb 1 n f hp)
 have hb := hp.bound.1
 obtain ⟨N, hN⟩ : ∃ N : Nat, n * 512 = N := ⟨_, rfl⟩
 rw [hN] at HS
 have hd : (N : Int) / 512 = n := by omega
 have hN2 : (N : Int) ≤ 131072 := by omega
 have hnI : (n : Int) ≤ 256 := by omega
 have hnI8 : (8 : Int) ≤ n := by omega
 have HQ : Hid ((7 : Int) * ((n : Int) - 4) / 2 = (quotaF n : Nat)) := Lib.hid (by unfold quotaF; omega)
 have hq0 : (0 : Int) ≤ 7 * ((n : Int) - 4) := by omega
 clear h hp hb hN hn
 go_enter Tryz.func70, Tryz.ntmps70
 go_wp2_with (fail)
 refine HS.out.mono ?_
 rintro e w1 ⟨rfl, rfl⟩
 go_wp2_with (fail)
 go_ret
 exact ⟨by rw [← HQ.out]; rfl, rfl⟩
theorem recF_take_le (l : List Ch) (j : Nat) : (recF (l.take j)).length ≤ (recF l).length := recF_sub (List.take_sublist j l)
def CsOK (n : Nat) (f : Fl) (D : Nat) : Prop := (∀ k, k < n → numAt f.cs (1 + k) = ((D + n - 1 - k) / n : Nat)) ∧ numAt f.cs 0 = 0 ∧ f.cs.length = n + 1
theorem formG_three (last : Int) (l : List Ch) : formG last l = 0 ∨ formG last l = 1 ∨ formG last l = 151 := by
 induction l generalizing last with
 | nil => exact .inl rfl
 | cons c t ih =>
  unfold formG
  split
  ·exact .inr (.inr rfl)
  ·split
   ·exact .inr (.inl rfl)
   ·exact ih c.key
theorem may_dead (n : Nat) (M : OM) (l : List Ch) : (mayF n M l == 2) = false := by
 unfold mayF
 split
 ·rcases formG_three 0 l with h1 | h1 | h1 <;> simp [formF, h1]
 ·split
  ·rfl
  ·split <;> rfl
theorem put_done {n : Nat} {st st' : St} {l : List Ch} {s a : Nat} (hI : InvS n st) (hI' : InvS n st') (hsame : ∀ k, valM st'.M k = valM st.M k) (hm : mayF n st.M l = 0) :
  sumA wO (takesF st'.M l s a) ≤ quotaF n ∧ ∀ k, valM (takesF st'.M l s a) k = valM (takesF st.M l 0 0) k := by
 have hf : formF l = 0 := by
  unfold mayF at hm
  split at hm
  ·next h => exact absurd hm h
  ·next h => simpa using h
 have hm2 : (recF l).length ≤ 400 ∧ becW st.M l (sumA wO st.M) ≤ quotaF n := by
  unfold mayF at hm
  rw [if_neg (by rw [hf]; simp)] at hm
  split at hm
  ·cases hm
  ·split at hm
   ·cases hm
   ·omega
 have hr := (formF_ok hf hm2.1).1
 have hv : ∀ k, valM (takesF st'.M l s a) k = valM (takesF st.M l 0 0) k := fun k => takes_val hI'.sorted hI.sorted hsame l hr s a 0 0 k
 refine ⟨?_, hv⟩
 have e1 := weight_same (takes_sorted s a l hI'.sorted) (takes_sorted 0 0 l hI.sorted) hv
 have e2 := becW_takes st.M 0 0 l hr st.M hI.sorted (fun _ _ => rfl)
 omega
section
open Go.Maps Go.Sort Go.Shelf
def sortedL_ren : Go.Shelf.Ren := ⟨fun | 6 => 85 | 8 => 108 | 9 => 109 | 11 => 137 | n => n, fun | 26 => 3 | 28 => 150 | 24 => 124 | 0 => 0 | 33 => 181 | n => n, fun | n => n⟩
theorem sortedL : SlLaysZI.n6 Tryz.prog sortedL_ren := {
  mixed := by kernel_rfl
  f6 := ⟨ "slices.Sorted[int]", by decide, Tryz.func85.trans (congrArg some (by kernel_rfl))⟩
  f8 := ⟨ "slices.Collect[int]", by decide, Tryz.func108.trans (congrArg some (by kernel_rfl))⟩
  f11 := ⟨ "slices.AppendSeq[[]int,int]", by decide, Tryz.func137.trans (congrArg some (by kernel_rfl))⟩
  t0 := Tryz.underlying0
  a0 := Tryz.isAgg0
  z0 := Tryz.sizeOf0
  v0 := Tryz.zeroValue0
  t24 := Tryz.underlying124
  a24 := Tryz.isAgg124
  z24 := Tryz.sizeOf124
  v24 := Tryz.zeroValue124
  t26 := Tryz.underlying3
  a26 := Tryz.isAgg3
  z26 := Tryz.sizeOf3
  v26 := Tryz.zeroValue3
  t28 := Tryz.underlying150
  a28 := Tryz.isAgg150
  z28 := Tryz.sizeOf150
  v28 := Tryz.zeroValue150
  i26 := by kernel_rfl
 }
theorem sortsI (m : Nat) : AnyZI.SortsIn Tryz.prog sortedL_ren Fence.wide m :=
  ⟨fun blk off cap ss W hH hblk hsz => callsIn_wide.2 (Tryz.slices_Sort_int blk off cap ss W hH hblk hsz),
   fun p cap W => callsIn_wide.2 (Tryz.slices_Sort_int_none p cap W)⟩
theorem mem_find {α : Type} {M : List (Int × α)} (k : Int) : k ∈ M.map (·.1) ↔ (findA M k).isSome = true := by
 induction M with
 | nil => simp [findA]
 | cons p t ih =>
  simp only [List.map_cons, List.mem_cons, findA]
  by_cases h : p.1 = k
  ·simp [h]
  ·simp only [h, if_false, ← ih]
   exact ⟨fun q => q.resolve_left (fun e => h e.symm), .inr⟩
theorem sortA {α : Type} {M : List (Int × α)} (h : SortedA M) : (M.map (·.1)).mergeSort leI = M.map (·.1) := by
 refine List.mergeSort_of_pairwise (List.pairwise_map.2 (h.imp fun {a b} hab => ?_))
 simp only [leI, decide_eq_true_eq]
 exact Int.le_of_lt hab
def valF (M : OM) (k : Int) : List UInt8 := ((findA M k).map (·.val)).getD []
end
theorem u8_size : (Tryz.prog.info? 5).map (·.size) = some 1 := by kernel_rfl
abbrev FB (k : Nat) : List Value := Lib.byteCells (List.replicate k 255)
def FilAt (w : World) (g k S : Nat) : Prop := ∃ X : List Value, w.heap[g]? = some (.cells (FB k ++ X).toArray 5 (0, 0)) ∧ k + X.length = S
theorem fb_len (k : Nat) : (FB k).length = k := by simp [FB, Lib.byteCells]
theorem fb_at (k i : Nat) (h : i < k) : (FB k)[i]? = some (B 255) := by
 rw [FB, Lib.byteCells, List.getElem?_map, List.getElem?_replicate, if_pos h]; rfl
theorem fb_one (k : Nat) : ∀ v ∈ FB k, v.oneCell' = true := by
 intro v hv
 obtain ⟨i, hi, rfl⟩ := List.mem_iff_getElem.1 hv
 rw [fb_len] at hi
 have := fb_at k i hi
 rw [List.getElem?_eq_getElem (by rw [fb_len]; exact hi), Option.some.injEq] at this
 rw [this]; rfl
theorem fb_add (k m : Nat) : FB (k + m) = FB k ++ FB m := by
 simp [FB, Lib.byteCells, ← List.replicate_append_replicate]
theorem fb_src (r j : Nat) (v : Value) (h : (FB r)[j]? = some v) : j < r ∧ B 255 = v := by
 have hj : j < r := by
  have := (List.getElem?_eq_some_iff.1 h).1
  rw [fb_len] at this; exact this
 rw [fb_at r j hj] at h
 exact ⟨hj, by cases h; rfl⟩
theorem fil_cell {w : World} {g k S : Nat} (h : FilAt w g k S) (i : Nat) (hi : i < k) : w.cell? ⟨g, i, none⟩ = some (B 255) := by
 obtain ⟨X, hb, _⟩ := h
 rw [cell_at hb, List.getElem?_toArray, List.getElem?_append_left (by rw [fb_len]; exact hi)]
 exact fb_at k i hi
theorem fil_splice (k m : Nat) (X : List Value) (h : m ≤ X.length) : splice (FB k ++ X) k (FB m) = FB (k + m) ++ X.drop m := by
 unfold splice
 rw [List.take_left' (fb_len k), fb_len, List.drop_append, fb_len, List.drop_of_length_le (by rw [fb_len]; omega), List.nil_append, show k + m - k = m by omega, fb_add, List.append_assoc]
theorem fil_row {w : World} {g k S : Nat} (h : FilAt w g k S) : RowX w g (List.replicate k 255) := by
 obtain ⟨X, hb, _⟩ := h
 exact ⟨X.toArray, by rw [hb]; simp [FB]⟩
theorem repeat_any (w : World) (gs c N : Nat) (h1 : 1 ≤ N) (hN : N ≤ 131072) (hc : w.cell? ⟨gs, 0, none⟩ = some (B 255)) :
  Calls Tryz.prog 32 #[.slice (some ⟨gs, 0, none⟩) 1 c, I N] w fun e w' => ∃ g, e = .returned (.slice (some ⟨g, 0, none⟩) N N) ∧ w.heap.size ≤ g ∧ RowX w' g (List.replicate N 255) ∧ Kept [] w w' := by
 have HMul := Tryz.bits_Mul 1 N (by omega) (by omega) w
 rw [show 1 * N / 18446744073709551616 = 0 by omega, show 1 * N % 18446744073709551616 = N by omega] at HMul
 replace HMul : Hid (Calls Tryz.prog 72 #[.int .u64 1, .int .u64 N] w fun e w' => e = .returned (.tuple #[.int .u64 0, .int .u64 N]) ∧ w' = w) := Lib.hid HMul
 obtain ⟨cs, hrunM, hle, _⟩ := Lib.run_makeNoZero (P := Tryz.prog) w #[3] 64 5 Tryz.underlying64 N (by omega)
 have hcall : (callFunc 73 #[I N]).run Tryz.prog w = .ok (.value (.slice (some ⟨w.heap.size, 0, none⟩) N cs.size)) ((w.alloc (.cells cs 5)).drewN 2) := by
  rw [run_callFunc_extern Tryz.func73 (by kernel_rfl) (by kernel_rfl) (by kernel_rfl) (e := Extern.BytealgMakeNoZero.makeNoZero #[3] #[64]) (by kernel_rfl), hrunM]
  rfl
 clear hrunM
 have hgs := World.block_lt_of_cell? w _ hc
 have kN : Kept [] w ((w.alloc (.cells cs 5)).drewN 2) := ((Kept.refl [] w).alloc _).drewN 2
 have hb0 : ((w.alloc (.cells cs 5)).drewN 2).heap[w.heap.size]? = some (.cells cs.toList.toArray 5 (0, 0)) := by
  have := heap_new w (.cells cs 5)
  simpa using this
 have HB0 := Lib.hid (And.intro hb0 (And.intro kN hle))
 have hc1 := kN.cellOf hc
 have hNI : (1 : Int) ≤ N := by omega
 have hNI2 : (N : Int) ≤ 131072 := by omega
 have hleI : (N : Int) ≤ (cs.size : Int) := by omega
 clear kN hb0
 go_enter Tryz.func32, Tryz.ntmps32
 go_wp2_with (fail)
 refine HMul.out.mono ?_
 rintro e w1 ⟨rfl, rfl⟩
 have hcase : (∃ _ : (N : Int) ≤ 8192, N = min N 8192) ∨ (∃ _ : (8192 : Int) < N, 8192 = min N 8192) := by
  rcases Nat.le_total N 8192 with h | h
  ·exact .inl ⟨by omega, by omega⟩
  ·by_cases e : N = 8192
   ·exact .inl ⟨by omega, by omega⟩
   ·exact .inr ⟨by omega, by omega⟩
 rcases hcase with ⟨hbI, hm⟩ | ⟨hbI, hm⟩
 all_goals
  obtain ⟨m, hmm⟩ : ∃ m : Nat, min N 8192 = m := ⟨_, rfl⟩
  rw [hmm] at hm
  have HM := Lib.hid hm
  clear hm
  go_upto_region 17 with (fail)
  have HC1 := Lib.hid hc1
  iterate 7 go_step
  refine wpList_copy_splice rfl (.tmp 58) (.tmp 59) 64 64 rfl 5 Tryz.underlying64 u8_size (some ⟨w1.heap.size, 0, none⟩) (some ⟨gs, 0, none⟩) N N 1 c rfl rfl w1.heap.size 0 cs.toList 5 HB0.out.1 (FB 1) (by show 1 = min 1 N; omega) (fun _ => ⟨rfl, _, rfl, fun j v hv => by rcases j with _ | j; (· cases hv; exact HC1.out); (· cases hv)⟩) (by rw [fb_len, Array.length_toList]; have := HB0.out.2.2; omega) (fb_one 1) w1.heap.size w1 HB0.out.2.1.below (Nat.le_refl _) ?_
  intro w2 hg2 hb2
  have HX2 : Hid (FilAt w2 w1.heap.size 1 cs.size ∧ Kept [] w1 w2) := Lib.hid ⟨⟨cs.toList.drop 1, by have := hg2.out; rw [show splice cs.toList 0 (FB 1) = FB 1 ++ cs.toList.drop 1 from by unfold splice; rw [fb_len, List.take_zero, List.nil_append]] at this; exact this, by have := HB0.out.2.2; rw [List.length_drop, Array.length_toList]; omega⟩, Kept.of_below hb2 (Nat.le_refl _)⟩
  have HB : Hid (N ≤ cs.size) := Lib.hid HB0.out.2.2
  clear hg2 hb2 hc1 hc HC1 HMul hcall HB0
  go_wp2_with (fail)
  go_loopw [10, 11] (fun v10 v11 wr => ∃ k : Nat, 1 ≤ k ∧ k ≤ N ∧ v10 = I k ∧ FilAt wr w1.heap.size k cs.size ∧ Kept [] w1 wr) (fun v10 _ _ => N - (intOf v10).toNat)
  case atStart => exact ⟨1, Nat.le_refl _, h1, rfl, HX2.out⟩
  case round =>
   obtain ⟨k, hk1, hkN, rfl, hfil, kr⟩ := hrel
   by_cases hlt : k < N
   ·have hltI : (k : Int) < N := by omega
    have hkI : (k : Int) ≤ N := by omega
    obtain ⟨q, hq⟩ : ∃ q, min k m = q := ⟨_, rfl⟩
    have hqI : (q : Int) ≤ N := by omega
    first
     | (have hmn : min (k : Int) (N : Int) = (q : Int) := by have := HM.out; omega)
     | (have hmn : min (k : Int) 8192 = (q : Int) := by have := HM.out; omega)
    obtain ⟨r, hr⟩ : ∃ r, min q (N - k) = r := ⟨_, rfl⟩
    have hqk : q ≤ k := by omega
    have hq1 : 1 ≤ q := by omega
    have hr1 : 1 ≤ r := by omega
    have hrk : k + r ≤ N := by omega
    have hrq : r ≤ q := by omega
    have hcl : ∀ j, j < k → wr.cell? ⟨w1.heap.size, j, none⟩ = some (B 255) := fun j hj => fil_cell hfil j hj
    obtain ⟨X, hb, hX⟩ := hfil
    have HF := Lib.hid (And.intro hb (And.intro hX (And.intro kr (And.intro hcl (And.intro hq (And.intro hr hrk))))))
    have hrI : ((k : Int) + r) ≤ 131072 := by omega
    have hwr : IntKind.i64.wrap ((k : Int) + (r : Int)) = ((k + r : Nat) : Int) := by rw [IntKind.wrap_i64]; omega
    have HR1 : Hid (1 ≤ r) := Lib.hid hr1
    clear hb hX kr hcl hq hr hr1 hrk hk1 hq1
    go_wp2_with (fail)
    go_region_law (refine step_copy_splice rfl (.tmp 70) (.tmp 73) 64 64 rfl 5 Tryz.underlying64 u8_size (some ⟨w1.heap.size, k, none⟩) (some ⟨w1.heap.size, 0, none⟩) (N - k) (N - k) q N (by have hne : ¬ N = k := (by omega); simp [Act.eval, Act.put, hne]) (by simp [Act.eval, Act.put]) w1.heap.size k (FB k ++ X) 5 HF.out.1 (FB r) (by rw [fb_len]; exact HF.out.2.2.2.2.2.1.symm) (fun _ => ⟨rfl, _, rfl, fun j v hv => (fb_src r j v hv).2 ▸ (by have := HF.out.2.2.2.1 j (by have := (fb_src r j v hv).1; omega); by_cases h0 : j = 0; (· subst h0; simpa [Addr.add] using this); (· simpa [Addr.add, h0] using this))⟩) (by rw [List.length_append, fb_len, fb_len]; have := HF.out.2.1; have := HB.out; have := HF.out.2.2.2.2.2.2; omega) (fb_one r) w1.heap.size w1 HF.out.2.2.1.drew.below (Nat.le_refl _) ?_; intro w4 hg4 hb4)
    all_goals
     go_wp2
     rw [fb_len, hwr]
     obtain ⟨hb, hX, kr, hcl, hq, hr, hrk⟩ := HF.out
     have hr1 := HR1.out
     refine ⟨⟨k + r, by omega, hrk, rfl, ⟨X.drop r, ?_, ?_⟩, Kept.of_below hb4 (Nat.le_refl _)⟩, by simp [intOf]; omega⟩
     ·have h4 := hg4.out
      rw [fil_splice k r X (by have := HB.out; omega)] at h4
      exact h4
     ·rw [List.length_drop]; have := HB.out; omega
   ·have hkN2 : k = N := by omega
    subst hkN2
    have HF := Lib.hid (And.intro hfil kr)
    clear hfil kr
    go_wp2_with (fail)
    go_ret
    exact ⟨_, rfl, Nat.le_refl _, fil_row HF.out.1, HF.out.2⟩
end Go.Proofs.YteplbljjlbdhaaaGreatDoor
