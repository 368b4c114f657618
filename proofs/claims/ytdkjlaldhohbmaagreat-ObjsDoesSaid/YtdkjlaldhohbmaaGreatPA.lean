/- Walks and lemmas on the program of this seat, used by its statements; each theorem bears its own conditions. -/
import Derived.Test.YtdkjlaldhohbmaaGreatOZ
import Derived.Handy
import Derived.OwnWalk
import Derived.Deep.AppendLies
import Derived.IntWalk
import Derived.Deep.CutRange
import Derived.Deep.RegionHeld3
import Derived.Deep.RegionLaw
import Derived.Maps.OwnSet
import Derived.Maps.Range
import Derived.Laws.IdiomCopy
namespace Go.Proofs.YtdkjlaldhohbmaaGreat
open Go.RowKit
set_option linter.unusedVariables false
set_option linter.unusedSimpArgs false
set_option maxHeartbeats 8000000
set_option maxRecDepth 100000
/-! ### The store on the flash -/
def sgs (n : Nat) : Nat → List (List (List Ch)) → List Sg
  | _, [] => []
  | D, _ :: t => (D % n, D + 1) :: sgs n (D + 1) t
theorem sgs_len (n : Nat) : ∀ (l : List (List (List Ch))) (D : Nat), (sgs n D l).length = l.length
  | [], _ => rfl
  | _ :: t, D => by simp [sgs, sgs_len n t]
theorem sgs_append (n : Nat) : ∀ (a b : List (List (List Ch))) (D : Nat), sgs n D (a ++ b) = sgs n D a ++ sgs n (D + a.length) b
  | [], b, D => rfl
  | x :: a, b, D => by
    simp only [List.cons_append, sgs, List.length_cons, sgs_append n a b (D + 1)]
    rw [show D + 1 + a.length = D + (a.length + 1) by omega]
theorem sgs_at (n : Nat) : ∀ (l : List (List (List Ch))) (D i : Nat) (h : i < (sgs n D l).length), (sgs n D l)[i] = ((D + i) % n, D + i + 1)
  | [], D, i, h => by simp [sgs] at h
  | x :: t, D, i, h => by
    cases i with
    | zero => rfl
    | succ i =>
      have h' : i < (sgs n (D + 1) t).length := by simpa [sgs] using h
      have := sgs_at n t (D + 1) i h'
      show (sgs n (D + 1) t)[i]'h' = _
      rw [this, show D + 1 + i = D + (i + 1) by omega]
theorem sgs_snoc (n D : Nat) (a : List (List (List Ch))) (x : List (List Ch)) : sgs n D (a ++ [x]) = sgs n D a ++ [((D + a.length) % n, D + a.length + 1)] := by rw [sgs_append]; rfl
theorem sgs_nums (n : Nat) : ∀ (l : List (List (List Ch))) (D : Nat), (sgs n D l).map (·.2) = (List.range l.length).map (D + · + 1)
  | [], D => rfl
  | x :: t, D => by
    simp only [sgs, List.map_cons, List.length_cons, List.range_succ_eq_map, sgs_nums n t (D + 1), List.map_map]
    congr 1
    apply List.map_congr_left
    intro i _
    simp only [Function.comp]
    omega
/-- The bytes of the part's blocks. -/
def FlOK (n : Nat) (f : Fl) (st : St) : Prop := ∀ j, j < n → blockOf f.bs (1 + (st.D + j) % n) = match st.segs[j]? with | some rs => segB (st.D + j + 1) (rs.map recF) | none => fullB
theorem mod_ne {n D i j : Nat} (hi : i < n) (hj : j < n) (h : i ≠ j) : (D + i) % n ≠ (D + j) % n := by
  intro e
  have a := Nat.div_add_mod (D + i) n
  have b := Nat.div_add_mod (D + j) n
  rw [e] at a
  have h1 : n * ((D + i) / n) + j = n * ((D + j) / n) + i := by omega
  rcases Nat.lt_trichotomy ((D + i) / n) ((D + j) / n) with hl | hl | hl
  · have := Nat.mul_le_mul_left n hl
    rw [Nat.mul_succ] at this
    omega
  · rw [hl] at h1; omega
  · have := Nat.mul_le_mul_left n hl
    rw [Nat.mul_succ] at this
    omega
theorem mod_succ {n D i : Nat} : ((D + i) % n + 1) % n = (D + (i + 1)) % n := by rw [Nat.mod_add_mod, Nat.add_assoc]
def CtOK (st : St) (C : List (Int × Nat)) : Prop :=
  (∀ j rs, st.segs[j]? = some rs → (findA C ((st.D + j + 1 : Nat) : Int)).getD 0 = rs.length) ∧ (∀ k : Int, (k ≤ st.D ∨ ((st.D + st.segs.length : Nat) : Int) < k) → findA C k = none)
theorem sorted_few {α : Type} : ∀ (C : List (Int × α)) (a : Int) (m : Nat), SortedA C → (∀ p ∈ C, a ≤ p.1 ∧ p.1 < a + m) → C.length ≤ m
  | [], _, _, _, _ => Nat.zero_le _
  | p :: t, a, m, hs, h => by
    obtain ⟨h1, h2⟩ := List.pairwise_cons.1 hs
    have hp := h p (by simp)
    have := sorted_few t (p.1 + 1) (a + m - (p.1 + 1)).toNat h2 (fun q hq => by have := h1 q hq; have := h q (by simp [hq]); omega)
    simp only [List.length_cons]
    omega
theorem ct_few {st : St} {C : List (Int × Nat)} (h : CtOK st C) (hs : SortedA C) : C.length ≤ st.segs.length := by
  refine sorted_few C (st.D + 1) _ hs fun p hp => ?_
  have hf := find_of_mem hs (k := p.1) (o := p.2) hp
  have h2 := h.2 p.1
  apply Classical.byContradiction
  intro hn
  rw [h2 (by omega)] at hf
  cases hf
theorem segs_len (st : St) : st.segs.length = st.init.length + 1 := by simp [St.segs]
theorem segs_last (st : St) : st.segs[st.init.length]? = some st.last := by simp [St.segs]
theorem vals_of {n : Nat} {st : St} (h : InvS n st) : Vals256 st.M := by
  intro k o ho
  obtain ⟨l, ⟨j, rs, h1, h2, h3⟩, hin⟩ := h.placed k o ho
  exact ((h.recs rs (List.mem_of_getElem? h1)).2 l (List.mem_of_getElem? h3)).2.1 _ hin |>.2.2.1
theorem recs400 {n : Nat} {st : St} (h : InvS n st) {rs : List (List Ch)} (hr : rs ∈ st.segs) : ∀ r ∈ rs.map recF, r.length ≤ 400 := by
  intro r hr2
  obtain ⟨l, hl, rfl⟩ := List.mem_map.1 hr2
  exact ((h.recs rs hr).2 l hl).2.2
/-- The counts behind an append. -/
theorem ct_app {st : St} {C : List (Int × Nat)} (h : CtOK st C) (hs : SortedA C) (l : List Ch) : (findA C ((putSeg st l : Nat) : Int)).getD 0 = putPos st l ∧ CtOK (appS st l) (insA (delA C ((putSeg st l : Nat) : Int)) ((putSeg st l : Nat) : Int) (putPos st l + 1)) := by
  have hf : ∀ (k j : Int) (x : Nat), findA (insA (delA C k) k x) j = if j = k then some x else findA C j := by
    intro k j x
    rw [find_ins _ _ _ (by rw [find_del hs, if_pos rfl]), find_del hs]
    by_cases hj : j = k
    · rw [if_pos hj, if_pos hj]
    · rw [if_neg hj, if_neg hj, if_neg hj]
  have hnum : st.num = st.D + st.init.length + 1 := rfl
  by_cases hfit : fitsS st l
  · have hp : putSeg st l = st.num := by unfold putSeg; rw [if_pos hfit]
    have hq : putPos st l = st.last.length := by unfold putPos; rw [if_pos hfit]
    rw [hp, hq]
    refine ⟨h.1 st.init.length st.last (segs_last st), ?_⟩
    rw [appS_fit hfit]
    have hsg : ({ st with last := st.last ++ [l], M := takesF st.M l st.num st.last.length } : St).segs = st.init ++ [st.last ++ [l]] := rfl
    refine ⟨fun j rs hj => ?_, fun k hk => ?_⟩
    · rw [hf]
      rw [hsg] at hj
      by_cases hji : j < st.init.length
      · rw [List.getElem?_append_left hji] at hj
        rw [if_neg (by show ¬ ((st.D + j + 1 : Nat) : Int) = ((st.num : Nat) : Int); omega)]
        exact h.1 j rs (by unfold St.segs; rw [List.getElem?_append_left hji]; exact hj)
      · rw [List.getElem?_append_right (by omega)] at hj
        have : j = st.init.length := by
          have := (List.getElem?_eq_some_iff.1 hj).1
          simp at this; omega
        subst this
        rw [if_pos (by rfl)]
        have : st.last ++ [l] = rs := by simpa using hj
        rw [← this]; simp
    · rw [hf, hsg] at *
      have hl : (st.init ++ [st.last ++ [l]]).length = st.segs.length := by simp [St.segs]
      rw [if_neg (by rcases hk with hk | hk
                     · show ¬ k = ((st.num : Nat) : Int); have : k ≤ (st.D : Int) := hk; omega
                     · rw [hl, segs_len] at hk; have : ((st.D + (st.init.length + 1) : Nat) : Int) < k := hk; show ¬ k = ((st.num : Nat) : Int); omega)]
      exact h.2 k (by rw [← hl]; exact hk)
  · have hp : putSeg st l = st.num + 1 := by unfold putSeg; rw [if_neg hfit]
    have hq : putPos st l = 0 := by unfold putPos; rw [if_neg hfit]
    rw [hp, hq]
    have hsl := segs_len st
    refine ⟨by rw [h.2 _ (.inr (by omega))]; rfl, ?_⟩
    rw [appS_new hfit]
    have hsg : ({ st with init := st.init ++ [st.last], last := [l], M := takesF st.M l (st.num + 1) 0 } : St).segs = st.segs ++ [[l]] := rfl
    refine ⟨fun j rs hj => ?_, fun k hk => ?_⟩
    · rw [hf]
      rw [hsg] at hj
      by_cases hji : j < st.segs.length
      · rw [List.getElem?_append_left hji] at hj
        rw [if_neg (by show ¬ ((st.D + j + 1 : Nat) : Int) = ((st.num + 1 : Nat) : Int); omega)]
        exact h.1 j rs hj
      · rw [List.getElem?_append_right (by omega)] at hj
        have : j = st.segs.length := by
          have := (List.getElem?_eq_some_iff.1 hj).1
          simp at this; omega
        subst this
        rw [if_pos (by show ((st.D + st.segs.length + 1 : Nat) : Int) = ((st.num + 1 : Nat) : Int); omega)]
        have : [l] = rs := by simpa using hj
        rw [← this]; rfl
    · rw [hf, hsg] at *
      rw [if_neg (by rcases hk with hk | hk
                     · have : k ≤ (st.D : Int) := hk; omega
                     · rw [List.length_append] at hk; have : ((st.D + (st.segs.length + 1) : Nat) : Int) < k := hk; omega)]
      exact h.2 k (by rcases hk with hk | hk
                      · exact .inl hk
                      · rw [List.length_append] at hk; have : ((st.D + (st.segs.length + 1) : Nat) : Int) < k := hk; exact .inr (by omega))
/-! ### The flash behind an append -/
theorem madeF_len (f : Fl) (fs k num : Nat) : (madeF f fs k num).bs.length = f.bs.length := by
  show (progL (progL f.bs _ _) _ _).length = _
  rw [progL_len, progL_len]
theorem appF_len (f : Fl) (a : Nat) (r : List UInt8) : (appF f a r).bs.length = f.bs.length := by
  show (progL (layF f a (laidL r)).bs _ _).length = _
  rw [progL_len, layF_len]
theorem appF_cs (f : Fl) (a : Nat) (r : List UInt8) : (appF f a r).cs = f.cs := by
  have : ∀ (l : List (List UInt8)) (f : Fl) (a : Nat), (layF f a l).cs = f.cs := by
    intro l
    induction l with
    | nil => intro f a; rfl
    | cons s l ih => intro f a; exact ih _ _
  exact this _ _ _
theorem appF_live (f : Fl) (a : Nat) (r : List UInt8) (h : f.dead = false ∧ f.armed = 0) : (appF f a r).dead = false ∧ (appF f a r).armed = 0 := layF_live _ _ _ h.1 h.2
theorem fl_fit {n : Nat} {f : Fl} {st : St} {l : List Ch} (hF : FlOK n f st) (hI : InvS n st) (hl : FormC l) (hfit : fitsS st l) (hlen : 512 * (1 + n) ≤ f.bs.length) :
    FlOK n (appF f (512 * (1 + (st.D + st.init.length) % n) + 64 * (1 + usedS st.last)) (recF l)) (appS st l) := by
  intro j hj
  have hfew := hI.few
  have hn : 0 < n := by omega
  have hl400 : (recF l).length ≤ 400 := hl.2.2
  have hfit' : usedS st.last + pgs l ≤ 7 := hfit
  have hmj : (st.D + j) % n < n := Nat.mod_lt _ hn
  have hml : (st.D + st.init.length) % n < n := Nat.mod_lt _ hn
  rw [appS_fit hfit]
  show blockOf _ (1 + (st.D + j) % n) = match (st.init ++ [st.last ++ [l]])[j]? with | some rs => segB (st.D + j + 1) (rs.map recF) | none => fullB
  by_cases hji : j = st.init.length
  · subst hji
    have h1 := hF st.init.length hj
    rw [segs_last st] at h1
    have h2 := seg_app f (1 + (st.D + st.init.length) % n) (st.D + st.init.length + 1) (st.last.map recF) (recF l) (recs400 hI (by simp [St.segs])) hl400 (by omega) h1 (by rw [usedS_eq]; exact hfit')
    rw [usedS_eq] at h2
    rw [h2]
    simp
  · have h1 := hF j hj
    rw [appF_other f (1 + (st.D + st.init.length) % n) (1 + (st.D + j) % n) (64 * (1 + usedS st.last)) (recF l) (by have := mod_ne (D := st.D) hj (by omega : st.init.length < n) hji; omega) hl400 (by omega) (by unfold pgs at hfit'; omega) (pages_pos _), h1]
    unfold St.segs
    by_cases hlt : j < st.init.length
    · rw [List.getElem?_append_left hlt, List.getElem?_append_left hlt]
    · rw [List.getElem?_eq_none (by simp; omega), List.getElem?_eq_none (by simp; omega)]
theorem fl_new {n : Nat} {f : Fl} {st : St} {l : List Ch} (hF : FlOK n f st) (hI : InvS n st) (hl : FormC l) (hfit : ¬ fitsS st l) (hroom : st.init.length + 2 ≤ n) (hlen : 512 * (1 + n) ≤ f.bs.length) :
    FlOK n (appF (madeF f 1 ((st.D + (st.init.length + 1)) % n) (st.num + 1)) (512 * (1 + (st.D + (st.init.length + 1)) % n) + 64) (recF l)) (appS st l) := by
  intro j hj
  have hn : 0 < n := by omega
  have hl400 : (recF l).length ≤ 400 := hl.2.2
  have h7 := pgs_le7 hl
  have hmj : (st.D + j) % n < n := Nat.mod_lt _ hn
  have hml : (st.D + (st.init.length + 1)) % n < n := Nat.mod_lt _ hn
  have hfree := hF (st.init.length + 1) (by omega)
  rw [List.getElem?_eq_none (by rw [segs_len]; omega)] at hfree
  rw [appS_new hfit]
  show blockOf _ (1 + (st.D + j) % n) = match (st.segs ++ [[l]])[j]? with | some rs => segB (st.D + j + 1) (rs.map recF) | none => fullB
  by_cases hji : j = st.init.length + 1
  · subst hji
    have h1 := seg_made f 1 ((st.D + (st.init.length + 1)) % n) (st.num + 1) (by omega) hfree
    have h2 := seg_app (madeF f 1 ((st.D + (st.init.length + 1)) % n) (st.num + 1)) (1 + (st.D + (st.init.length + 1)) % n) (st.num + 1) [] (recF l) (by simp) hl400 (by rw [madeF_len]; omega) h1 (by simp only [usedF]; unfold pgs at h7; omega)
    simp only [usedF, List.nil_append, Nat.add_zero, Nat.mul_one] at h2
    rw [h2, List.getElem?_append_right (by rw [segs_len]; omega), segs_len]
    have e : st.num + 1 = st.D + (st.init.length + 1) + 1 := by unfold St.num; omega
    rw [e]
    simp
  · have h1 := hF j hj
    have hne := mod_ne (D := st.D) hj (by omega : st.init.length + 1 < n) hji
    rw [appF_other _ (1 + (st.D + (st.init.length + 1)) % n) (1 + (st.D + j) % n) 64 (recF l) (by omega) hl400 (by rw [madeF_len]; omega) (by unfold pgs at h7; omega) (pages_pos _), seg_made_other f 1 _ _ _ (by omega) (by omega), h1]
    by_cases hlt : j < st.segs.length
    · rw [List.getElem?_append_left hlt]
    · rw [segs_len] at hlt
      rw [List.getElem?_eq_none (by rw [segs_len]; omega), List.getElem?_eq_none (by simp [St.segs]; omega)]
/-- The flash behind a drop. -/
theorem fl_drop {n : Nat} {f : Fl} {st : St} {rs0 : List (List Ch)} {t : List (List (List Ch))} (ht : st.init = rs0 :: t) (M : OM) (hF : FlOK n f st) (hfew : st.init.length + 1 ≤ n) (hlen : 512 * (1 + n) ≤ f.bs.length) (f' : Fl) (hf' : f'.bs = eraseL f.bs (1 + st.D % n)) :
    FlOK n f' { st with D := st.D + 1, init := t, M := M } := by
  intro j hj
  have hn : 0 < n := by omega
  have hil : st.init.length = t.length + 1 := by rw [ht]; rfl
  have hm0 : st.D % n < n := Nat.mod_lt _ hn
  show blockOf f'.bs (1 + (st.D + 1 + j) % n) = match (t ++ [st.last])[j]? with | some rs => segB (st.D + 1 + j + 1) (rs.map recF) | none => fullB
  rw [hf']
  by_cases hji : j = n - 1
  · subst hji
    have e : (st.D + 1 + (n - 1)) % n = st.D % n := by rw [show st.D + 1 + (n - 1) = st.D + n by omega, Nat.add_mod_right]
    rw [e, erase_same (by omega), List.getElem?_eq_none (by simp; omega)]
  · have h1 := hF (j + 1) (by omega)
    have hne := mod_ne (D := st.D) (by omega : j + 1 < n) hn (by omega : j + 1 ≠ 0)
    rw [Nat.add_zero] at hne
    rw [show st.D + 1 + j = st.D + (j + 1) by omega]
    have hmj : (st.D + (j + 1)) % n < n := Nat.mod_lt _ hn
    have hne2 : 1 + (st.D + (j + 1)) % n ≠ 1 + st.D % n := fun e => hne (Nat.add_left_cancel e)
    rw [erase_other (by omega) hne2, h1]
    have e : st.segs = rs0 :: (t ++ [st.last]) := by unfold St.segs; rw [ht]; rfl
    rw [e, List.getElem?_cons_succ]
/-! ### The store, whole -/
structure SAt (w : World) (sb lb pb fb bb cb mb kb n : Nat) (v : Value) (st : St) (f : Fl) : Prop where
  lg : LgAt w lb pb fb bb cb 1 n v (sgs n st.D st.segs) f false
  core : ∃ C, CoreAt w sb pb lb mb kb (sumA wO st.M) st.M C ∧ CtOK st C
  fl : FlOK n f st
  inv : InvS n st
  live : f.dead = false ∧ f.armed = 0
  sep : ∀ x, x ∈ [sb, mb, kb] → x ∉ LgT lb fb bb cb v ∧ x ≠ pb
/-- The blocks that the store's calls may turn. -/
def StT (sb lb fb bb cb mb kb : Nat) (v : Value) : List Nat := [sb, mb, kb] ++ LgT lb fb bb cb v
section
variable {w : World} {sb lb pb fb bb cb mb kb n : Nat} {v : Value} {st : St} {f : Fl}
theorem SAt.same {w' : World} (h : SAt w sb lb pb fb bb cb mb kb n v st f) (k : Kept [] w w') : SAt w' sb lb pb fb bb cb mb kb n v st f := by
  obtain ⟨C, h1, h2⟩ := h.core
  exact ⟨h.lg.same k, ⟨C, h1.same k, h2⟩, h.fl, h.inv, h.live, h.sep⟩
theorem SAt.kept {w' : World} {T : List Nat} (h : SAt w sb lb pb fb bb cb mb kb n v st f) (k : Kept T w w') (hT : ∀ x ∈ T, x ∉ StT sb lb fb bb cb mb kb v ∧ x ≠ pb) : SAt w' sb lb pb fb bb cb mb kb n v st f := by
  obtain ⟨C, h1, h2⟩ := h.core
  have hno : ∀ y, y ∈ StT sb lb fb bb cb mb kb v → y ∉ T := fun y hy hm => (hT y hm).1 hy
  refine ⟨h.lg.kept k (hno _ (by simp [StT, LgT])) (fun hm => (hT _ hm).2 rfl) (hno _ (by simp [StT, LgT])) (hno _ (by simp [StT, LgT])) (hno _ (by simp [StT, LgT])) (fun q hq => hno q (by simp [StT, LgT, hq])), ⟨C, h1.kept k (hno _ (by simp [StT])) (hno _ (by simp [StT])) (hno _ (by simp [StT])), h2⟩, h.fl, h.inv, h.live, h.sep⟩
theorem SAt.bound (h : SAt w sb lb pb fb bb cb mb kb n v st f) : 1 + n ≤ 256 ∧ 512 * (1 + n) ≤ f.bs.length := by
  have := h.lg.pt.bound
  omega
theorem StT.subL {w' : World} (k : Kept (LgT lb fb bb cb v) w w') : Kept (StT sb lb fb bb cb mb kb v) w w' := k.mono (fun x hx => List.mem_append.2 (.inr hx))
theorem StT.subC {w' : World} (k : Kept [sb, mb, kb] w w') : Kept (StT sb lb fb bb cb mb kb v) w w' := k.mono (fun x hx => List.mem_append.2 (.inl hx))
theorem StT.sub0 {w' : World} (k : Kept [] w w') : Kept (StT sb lb fb bb cb mb kb v) w w' := k.mono (by simp)
end
def SPost (r : Value) (sb lb pb fb bb cb mb kb n : Nat) (v : Value) (w : World) (Q : St → Fl → Prop) (e : Ending) (w' : World) : Prop :=
  e = .returned r ∧ ∃ v' st' f', Fresh w v v' ∧ SAt w' sb lb pb fb bb cb mb kb n v' st' f' ∧ Kept (StT sb lb fb bb cb mb kb v) w w' ∧ Q st' f'
theorem stold_any (w : World) (sb pb lb mb kb : Nat) (x : Int) (M : OM) (C : List (Int × Nat)) (h : CoreAt w sb pb lb mb kb x M C) (k : Int) (hk : (k == 2) = false) :
    Calls Tryz.prog 39 #[Ptr sb, I k] w fun e w' => e = .returned (I k) ∧ CoreAt w' sb pb lb mb kb x M C ∧ Kept [sb] w w' := by
  obtain ⟨c0, c1, c2, c3, c4, c5⟩ := h.cells
  have hf := h.free
  have H := Lib.hid h
  clear h
  go_enter Tryz.func39, Tryz.ntmps39
  go_wp2_with (fail)
  go_ret
  have kk : Kept [sb] w (w.setCell ⟨sb, 5, none⟩ (.bool false)) := (Kept.refl _ _).setCell (.inl (by simp)) _
  have hb := heap_setCell_at H.out.blk 5 (.bool false)
  refine ⟨rfl, ⟨by simpa using hb, H.out.ob.kept kk (by simpa using Ne.symm H.out.n1), H.out.ct.kept kk (by simpa using Ne.symm H.out.n2), H.out.n1, H.out.n2, H.out.n3⟩, kk⟩
theorem snewest_any (w : World) (sb lb pb fb bb cb n : Nat) (v : Value) (segs : List Sg) (f : Fl) (h : LgAt w lb pb fb bb cb 1 n v segs f false) (c1 : w.cell? ⟨sb, 1, none⟩ = some (Ptr lb)) (k num : Nat) (hsl : segs.length = k + 1) (hk : k ≤ 900) (hlast : (segs.map (·.2))[k]? = some num) : Calls Tryz.prog 82 #[Ptr sb] w fun e w' => e = .returned (I num) ∧ Kept [] w w' := by
  have HS := Lib.hid (segs_any w lb pb fb bb cb 1 n v _ f false h (by intro he; rw [he] at hsl; simp at hsl) (by rw [hsl]; omega))
  rw [hsl] at HS
  have hkI : (k : Int) ≤ 900 := by omega
  have hkI0 : (0 : Int) ≤ k := by omega
  have hr : Hid (∀ (W : World) (v' : Value), W.ownsRow (w.heap.size + 1) 3 1 v' (k + 1) ((segs.map (·.2)).map fun x : Nat => I x) → ∃ g c, v' = .slice (some ⟨g, 0, none⟩) (k + 1) c ∧ W.cell? ⟨g, k, none⟩ = some (I num)) := Lib.hid (by
    intro W v' ow
    obtain ⟨g, c, e, _, hc⟩ := row_cells1 ow (by omega)
    refine ⟨g, c, e, ?_⟩
    rw [hc k (by omega), List.getElem?_map, hlast]
    rfl)
  clear h hsl hk hlast
  go_enter Tryz.func82, Tryz.ntmps82
  go_wp2_with (fail)
  refine HS.out.mono ?_
  rintro e w1 ⟨v', rfl, own, k1⟩
  obtain ⟨g, c, rfl, hcell⟩ := hr.out w1 v' own
  have K1 := Lib.hid k1
  clear own k1
  go_wp2_with (fail)
  go_ret
  exact ⟨rfl, K1.out⟩
/-! ### append -/
theorem app_num (st : St) (l : List Ch) : (appS st l).num = putSeg st l := by
  unfold putSeg
  split
  · next h => rw [appS_fit h]; rfl
  · next h => rw [appS_new h]; unfold St.num; simp; omega
theorem app_segs (n : Nat) (st : St) (l : List Ch) : ∃ init', (appS st l).segs = init' ++ [(appS st l).last] ∧ init' = (appS st l).init := ⟨_, rfl, rfl⟩
theorem last_few {n : Nat} {st : St} (h : InvS n st) : st.last.length ≤ 7 := by
  have h1 := (h.recs st.last (by simp [St.segs])).1
  have : ∀ rs : List (List Ch), rs.length ≤ usedS rs := fun rs => by
    induction rs with
    | nil => exact Nat.le_refl _
    | cons x t ih => have := pgs_pos x; simp only [List.length_cons, usedS]; omega
  have := this st.last
  omega
theorem fresh_mono {w w' : World} {v v' : Value} (h : Fresh w' v v') (hs : w.heap.size ≤ w'.heap.size) : Fresh w v v' := fun q hq => (h q hq).imp id (Nat.le_trans hs)
/-- The log stays while the store's own blocks turn. -/
theorem LgAt.beside {w0 w w' : World} {sb lb pb fb bb cb mb kb fs n : Nat} {v v' : Value} {segs : List Sg} {f : Fl} {d : Bool} (h : LgAt w lb pb fb bb cb fs n v' segs f d) (k : Kept [sb, mb, kb] w w') (hfr : Fresh w0 v v') (hs : ∀ x ∈ [sb, mb, kb], x ∉ LgT lb fb bb cb v ∧ x ≠ pb) (hlt : ∀ x ∈ [sb, mb, kb], x < w0.heap.size) : LgAt w' lb pb fb bb cb fs n v' segs f d := by
  have hno : ∀ y, y ∈ LgT lb fb bb cb v → y ∉ [sb, mb, kb] := fun y hy hm => (hs y hm).1 hy
  refine h.kept k (hno _ (by simp [LgT])) (fun hm => (hs _ hm).2 rfl) (hno _ (by simp [LgT])) (hno _ (by simp [LgT])) (hno _ (by simp [LgT])) (fun q hq hm => ?_)
  rcases hfr q hq with h1 | h1
  · exact hno q (by simp [LgT, h1]) hm
  · have := hlt q hm; omega
theorem sep_fresh {w0 : World} {sb lb fb bb cb mb kb pb : Nat} {v v' : Value} (hfr : Fresh w0 v v') (hs : ∀ x, x ∈ [sb, mb, kb] → x ∉ LgT lb fb bb cb v ∧ x ≠ pb) (hlt : ∀ x ∈ [sb, mb, kb], x < w0.heap.size) : ∀ x, x ∈ [sb, mb, kb] → x ∉ LgT lb fb bb cb v' ∧ x ≠ pb := by
  intro x hx
  refine ⟨fun hm => ?_, (hs x hx).2⟩
  have h1 := (hs x hx).1
  simp only [LgT, List.mem_append, Option.mem_toList] at hm h1
  rcases hm with hm | hm
  · exact h1 (.inl hm)
  · rcases hfr x (by simpa using hm) with h2 | h2
    · exact h1 (.inr (by simpa using h2))
    · have := hlt x hx; omega
set_option maxHeartbeats 8000000 in
theorem oappend_any (w : World) (sb lb pb fb bb cb mb kb n : Nat) (v : Value) (st : St) (f : Fl) (h : SAt w sb lb pb fb bb cb mb kb n v st f) (l : List Ch) (cv : Value) (hv : ChsAt w cv l) (hvq : ∀ q, cv.ownBlock = some q → q < w.heap.size ∧ q ∉ StT sb lb fb bb cb mb kb v)
    (hl : FormC l) (hl2 : l.length ≤ 1000) (spare : Nat) (hsp : spare ≤ 1000) (hroom : ¬ fitsS st l → spare + (st.init.length + 1) < n) (hnum : st.num ≤ 1000000000) (hsum : sumA wO st.M ≤ 100000) :
    Calls Tryz.prog 46 #[Ptr sb, cv, I spare] w (SPost (I 0) sb lb pb fb bb cb mb kb n v w fun st' f' => st' = appS st l ∧ f'.cs = f.cs) := by
  obtain ⟨C, hc, hct⟩ := h.core
  have hb := h.bound
  have hinv := h.inv
  have hfew := hinv.few
  have hlast := (hinv.recs st.last (by simp [St.segs])).1
  have hn : 0 < n := by omega
  have hbb : (st.D + st.init.length) % n < n := Nat.mod_lt _ hn
  have hseg0 : sgs n st.D st.segs = sgs n st.D st.init ++ [((st.D + st.init.length) % n, st.num)] := by
    unfold St.segs; rw [sgs_snoc]; rfl
  have hroom0 : roomF (blockOf f.bs (1 + (st.D + st.init.length) % n)) 7 = 7 - usedS st.last := by
    rw [h.fl st.init.length (by omega), segs_last]
    simp only
    rw [seg_room _ _ (recs400 hinv (by simp [St.segs])) (by rw [usedS_eq]; exact hlast), usedS_eq]
  have hpg7 := pgs_le7 hl
  have e6 : (256 : Nat) ^ 6 = 281474976710656 := by decide
  have hinvA := appS_inv hinv hl (fun hf => by have := hroom hf; omega)
  -- the log's append
  have HAPP : ∃ f', f'.cs = f.cs ∧ (f'.dead = false ∧ f'.armed = 0) ∧ FlOK n f' (appS st l) ∧ ∀ W, Kept [] w W → Calls Tryz.prog 81 #[Ptr lb, S (recF l), I spare] W (LgPost (I 0) lb pb fb bb cb 1 n v W (sgs n (appS st l).D (appS st l).segs) f' false) := by
    by_cases hfit : fitsS st l
    · have hfit' : usedS st.last + pgs l ≤ 7 := hfit
      refine ⟨appF f (512 * (1 + (st.D + st.init.length) % n) + 64 * (1 + usedS st.last)) (recF l), appF_cs _ _ _, appF_live _ _ _ h.live, fl_fit h.fl hinv hl hfit hb.2, fun W k => ?_⟩
      have hlg := h.lg.same k
      rw [hseg0] at hlg
      have := append_any W lb pb fb bb cb 1 n v (sgs n st.D st.init) ((st.D + st.init.length) % n) st.num f hlg (by rw [sgs_len]; omega) h.live.1 h.live.2 hbb (recF l) hl.2.2 spare hsp (sgs n st.D st.init) ((st.D + st.init.length) % n) st.num f (7 - usedS st.last) (.inl ⟨by rw [hroom0]; show pgs l ≤ _; omega, rfl, rfl, rfl, rfl⟩) hroom0 (by omega) (by show pgs l ≤ _; omega)
      have e1 : sgs n (appS st l).D (appS st l).segs = sgs n st.D st.init ++ [((st.D + st.init.length) % n, st.num)] := by
        rw [appS_fit hfit]
        show sgs n st.D (st.init ++ [st.last ++ [l]]) = _
        rw [sgs_snoc]; rfl
      rw [e1, show 512 * (1 + (st.D + st.init.length) % n) + 64 * (1 + usedS st.last) = 512 * 1 + ((st.D + st.init.length) % n * 512 + (8 - (7 - usedS st.last)) * 64) by omega]
      exact this
    · have hr := hroom hfit
      have hnf : 7 < usedS st.last + pgs l := by unfold fitsS at hfit; omega
      have hfree := h.fl (st.init.length + 1) (by omega)
      rw [List.getElem?_eq_none (by rw [segs_len]; omega)] at hfree
      simp only at hfree
      have hmade := seg_made f 1 ((st.D + (st.init.length + 1)) % n) (st.num + 1) (by have := Nat.mod_lt (st.D + (st.init.length + 1)) hn; omega) hfree
      have hrm7 : roomF (blockOf (madeF f 1 ((st.D + (st.init.length + 1)) % n) (st.num + 1)).bs (1 + (st.D + (st.init.length + 1)) % n)) 7 = 7 := by
        rw [hmade]
        exact seg_room _ [] (by simp) (by simp [usedF])
      refine ⟨appF (madeF f 1 ((st.D + (st.init.length + 1)) % n) (st.num + 1)) (512 * (1 + (st.D + (st.init.length + 1)) % n) + 64) (recF l), appF_cs _ _ _, appF_live _ _ _ ⟨h.live.1, h.live.2⟩, fl_new h.fl hinv hl hfit (by omega) hb.2, fun W k => ?_⟩
      have hlg := h.lg.same k
      rw [hseg0] at hlg
      have hms : ((st.D + st.init.length) % n + 1) % n = (st.D + (st.init.length + 1)) % n := mod_succ
      have := append_any W lb pb fb bb cb 1 n v (sgs n st.D st.init) ((st.D + st.init.length) % n) st.num f hlg (by rw [sgs_len]; omega) h.live.1 h.live.2 hbb (recF l) hl.2.2 spare hsp (sgs n st.D st.init ++ [((st.D + st.init.length) % n, st.num)]) ((st.D + (st.init.length + 1)) % n) (st.num + 1) (madeF f 1 ((st.D + (st.init.length + 1)) % n) (st.num + 1)) 7 (.inr ⟨by rw [hroom0]; show _ < pgs l; omega, by rw [sgs_len]; omega, by rw [hms]; exact hfree, by rw [e6]; omega, rfl, hms.symm, rfl, by rw [hms]⟩) hrm7 (by omega) (by show pgs l ≤ _; omega)
      have e1 : sgs n (appS st l).D (appS st l).segs = sgs n st.D st.init ++ [((st.D + st.init.length) % n, st.num)] ++ [((st.D + (st.init.length + 1)) % n, st.num + 1)] := by
        rw [appS_new hfit]
        show sgs n st.D ((st.init ++ [st.last]) ++ [[l]]) = _
        rw [sgs_snoc, sgs_snoc]
        simp [St.num]
        omega
      rw [e1, show 512 * (1 + (st.D + (st.init.length + 1)) % n) + 64 = 512 * 1 + ((st.D + (st.init.length + 1)) % n * 512 + (8 - 7) * 64) by omega]
      exact this
  obtain ⟨f', hcs, hlive, hfl, HAPP⟩ := HAPP
  have HA := Lib.hid HAPP
  have HREC := Lib.hid (fun W (k : Kept [] w W) => orecord_any l cv W (hv.same k) hl2 (fun c hc => ⟨(hl.2.1 c hc).1, (hl.2.1 c hc).2.1, (hl.2.1 c hc).2.2.1⟩))
  have HF := Lib.hid (And.intro hcs (And.intro hlive (And.intro hfl (And.intro hinvA h))))
  have HV := Lib.hid (And.intro hv (And.intro hvq (And.intro hl hl2)))
  have HCE := Lib.hid (fun W (k : Kept [] w W) => (hc.same k).cells)
  have HCC := Lib.hid (And.intro hc hct)
  have HLT : Hid (∀ x ∈ [sb, mb, kb], x < w.heap.size) := Lib.hid (by
    intro x hx
    simp at hx
    rcases hx with rfl | rfl | rfl
    · exact hc.lt
    · exact hc.ob.lt
    · exact hc.ct.lt)
  obtain ⟨c0, c1, c2, c3, c4, c5⟩ := hc.cells
  have HN := Lib.hid (And.intro hnum (And.intro hsum (And.intro hfew hb.1)))
  clear HAPP hcs hlive hfl hinvA h hv hvq hl hl2 hc hct hroom hroom0 hseg0 hlast hinv hfew hb hbb hn hpg7 e6 hnum hsum
  go_enter Tryz.func46, Tryz.ntmps46
  go_upto_region 1 with (fail)
  go_cut [7] from 8 to 17 (fun v7 wx => v7 = I 0 ∧ ∃ v', Fresh w v v' ∧ LgAt wx lb pb fb bb cb 1 n v' (sgs n (appS st l).D (appS st l).segs) f' false ∧ CoreAt wx sb pb lb mb kb (sumA wO st.M) st.M C ∧ Kept (StT sb lb fb bb cb mb kb v) w wx)
  case first =>
    obtain ⟨t0, t1, t2, t3, t4, t5⟩ := HCE.out w.drew ((Kept.refl [] w).drew)
    go_region_with (first
      | (go_at_call 42; (with_reducible refine (HREC.out _ (Kept.refl [] w).drew).mono ?_); rintro e w2 ⟨rfl, k2⟩; have K2 := (Kept.refl [] w).drew.trans' k2; have e1 := (HCE.out _ K2).2.1)
      | (go_at_call 81; (with_reducible refine (HA.out _ K2).mono ?_); rintro e w3 ⟨rfl, v', hfr, hlg, k3⟩; have hc3 := (HCC.out.1.same K2).kept k3 (HF.out.2.2.2.2.sep _ (by simp)).1 (HF.out.2.2.2.2.sep _ (by simp)).1 (HF.out.2.2.2.2.sep _ (by simp)).1)
      | (go_at_call 39; (with_reducible refine (stold_any _ sb pb lb mb kb _ _ C hc3 0 rfl).mono ?_); rintro e w4 ⟨rfl, hc4, k4⟩))
    all_goals
      go_wp2
      go_meet
      have hlt := HLT.out
      exact ⟨rfl, v', fresh_mono hfr K2.size, hlg.beside (sb := sb) (mb := mb) (kb := kb) (k4.mono (by simp)) (fresh_mono hfr K2.size) HF.out.2.2.2.2.sep hlt, hc4, (StT.sub0 K2).trans' ((StT.subL k3).trans' (StT.subC (k4.mono (by simp))))⟩
  case rest =>
  obtain ⟨rfl, v', hfr, hlg, hcw, kw⟩ := hcut
  have hlenA : (sgs n (appS st l).D (appS st l).segs).length = (appS st l).init.length + 1 := by rw [sgs_len, segs_len]
  have hfewA := HF.out.2.2.2.1.few
  have hnumA : ((sgs n (appS st l).D (appS st l).segs).map (·.2))[(appS st l).init.length]? = some (putSeg st l) := by
    rw [sgs_nums, List.getElem?_map, List.getElem?_range (by rw [segs_len]; omega), ← app_num]
    rfl
  have HNW := Lib.hid (snewest_any wc sb lb pb fb bb cb n v' _ f' hlg hcw.cells.2.1 _ _ hlenA (by have := HN.out.2.2.2; omega) hnumA)
  have HX := Lib.hid (And.intro hfr (And.intro hlg (And.intro hcw kw)))
  clear hlenA hfewA hnumA hfr hlg hcw kw c0 c1 c2 c3 c4 c5
  go_wp2_with (fail)
  refine HNW.out.mono ?_
  rintro e w5 ⟨rfl, k5⟩
  obtain ⟨hfr, hlg, hcw, kw⟩ := HX.out
  obtain ⟨hv, hvq, hl, hl2⟩ := HV.out
  obtain ⟨hct1, hct2⟩ := ct_app HCC.out.2 HCC.out.1.ct.srt l
  have hps : putSeg st l ≤ 1000000000001 := by have := HN.out.1; unfold putSeg; split <;> omega
  have hpp : putPos st l ≤ 7 := by have := last_few HF.out.2.2.2.2.inv; unfold putPos; split <;> omega
  have hcl : C.length ≤ 1000 := by
    have h1 := ct_few HCC.out.2 HCC.out.1.ct.srt
    rw [segs_len] at h1
    have := HN.out.2.2.1
    have := HN.out.2.2.2
    omega
  have HTK := Lib.hid (takes_any w5 sb pb lb mb kb st.M C (hcw.same k5) l cv (hv.kept (kw.trans' (StT.sub0 k5)) (fun q hq => (hvq q hq).2)) (fun q hq hm => (hvq q hq).2 (List.mem_append.2 (.inl hm))) hl2 (fun c hc => ⟨(hl.2.1 c hc).1, (hl.2.1 c hc).2.1, (hl.2.1 c hc).2.2.1⟩) (vals_of HF.out.2.2.2.2.inv) HN.out.2.1 (putSeg st l) (putPos st l) (by have := HN.out.1; unfold putSeg; split <;> omega) hct1 (by omega) hcl)
  have HX2 := Lib.hid (And.intro hfr (And.intro (hlg.same k5) (And.intro (kw.trans' (StT.sub0 k5)) hct2)))
  clear hfr hlg hcw kw hv hvq hl hl2 hct1 hct2 hps hpp hcl k5 HX HNW
  go_wp2_with (fail)
  refine HTK.out.mono ?_
  rintro e w6 ⟨rfl, hc6, k6⟩
  have H6 := Lib.hid (And.intro hc6 k6)
  clear hc6 k6 HTK
  go_wp2_with (fail)
  go_ret
  obtain ⟨hfr, hlg, kw, hct⟩ := HX2.out
  obtain ⟨hc6, k6⟩ := H6.out
  rw [← appS_M] at hc6
  refine ⟨rfl, v', appS st l, f', hfr, ⟨hlg.beside k6 hfr HF.out.2.2.2.2.sep HLT.out, ⟨_, hc6, hct⟩, HF.out.2.2.1, HF.out.2.2.2.1, HF.out.2.1, sep_fresh hfr HF.out.2.2.2.2.sep HLT.out⟩, kw.trans' (StT.subC k6), rfl, HF.out.1⟩
end Go.Proofs.YtdkjlaldhohbmaaGreat
