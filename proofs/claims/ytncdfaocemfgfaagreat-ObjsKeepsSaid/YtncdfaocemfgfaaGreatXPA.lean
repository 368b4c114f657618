/- Walks and lemmas on the program of this seat, used by its statements; each theorem bears its own conditions. -/
import Derived.Test.YtncdfaocemfgfaaGreatOZ
import Derived.Handy
import Derived.OwnWalk
import Derived.Deep.AppendLies
import Derived.IntWalk
import Derived.Deep.CutRange
import Derived.Deep.RegionHeld3
import Derived.Deep.RegionLaw
import Derived.Maps.OwnSet
import Derived.Maps.Range
import Derived.Laws.IdiomCopy
namespace Go.Proofs.YtncdfaocemfgfaaGreat
open Go.RowKit
set_option linter.unusedVariables false
set_option linter.unusedSimpArgs false
section
set_option maxHeartbeats 8000000
set_option maxRecDepth 100000
/-! ### The store on the flash -/
def sgs (n : Nat) : Nat → List (List (List Ch)) → List Sg
  | _, [] => []
  | D, _ :: t => (D % n, D + 1) :: sgs n (D + 1) t
theorem sgs_len (n : Nat) : ∀ (l : List (List (List Ch))) (D : Nat), (sgs n D l).length = l.length
  | [], _ => rfl
  | _ :: t, D => by simp [sgs, sgs_len n t]
theorem sgs_append (n : Nat) : ∀ (a b : List (List (List Ch))) (D : Nat), sgs n D (a ++ b) = sgs n D a ++ sgs n (D + a.length) b
  | [], b, D => rfl
  | x :: a, b, D => by
    simp only [List.cons_append, sgs, List.length_cons, sgs_append n a b (D + 1)]
    rw [show D + 1 + a.length = D + (a.length + 1) by omega]
theorem sgs_at (n : Nat) : ∀ (l : List (List (List Ch))) (D i : Nat) (h : i < (sgs n D l).length), (sgs n D l)[i] = ((D + i) % n, D + i + 1)
  | [], D, i, h => by simp [sgs] at h
  | x :: t, D, i, h => by
    cases i with
    | zero => rfl
    | succ i =>
      have h' : i < (sgs n (D + 1) t).length := by simpa [sgs] using h
      have := sgs_at n t (D + 1) i h'
      show (sgs n (D + 1) t)[i]'h' = _
      rw [this, show D + 1 + i = D + (i + 1) by omega]
theorem sgs_snoc (n D : Nat) (a : List (List (List Ch))) (x : List (List Ch)) : sgs n D (a ++ [x]) = sgs n D a ++ [((D + a.length) % n, D + a.length + 1)] := by rw [sgs_append]; rfl
theorem sgs_nums (n : Nat) : ∀ (l : List (List (List Ch))) (D : Nat), (sgs n D l).map (·.2) = (List.range l.length).map (D + · + 1)
  | [], D => rfl
  | x :: t, D => by
    simp only [sgs, List.map_cons, List.length_cons, List.range_succ_eq_map, sgs_nums n t (D + 1), List.map_map]
    congr 1
    apply List.map_congr_left
    intro i _
    simp only [Function.comp]
    omega
/-- The bytes of the part's blocks. -/
def FlOK (n : Nat) (f : Fl) (st : St) : Prop := ∀ j, j < n → blockOf f.bs (1 + (st.D + j) % n) = match st.segs[j]? with | some rs => segB (st.D + j + 1) (rs.map recF) | none => fullB
theorem mod_ne {n D i j : Nat} (hi : i < n) (hj : j < n) (h : i ≠ j) : (D + i) % n ≠ (D + j) % n := by
  intro e
  have a := Nat.div_add_mod (D + i) n
  have b := Nat.div_add_mod (D + j) n
  rw [e] at a
  have h1 : n * ((D + i) / n) + j = n * ((D + j) / n) + i := by omega
  rcases Nat.lt_trichotomy ((D + i) / n) ((D + j) / n) with hl | hl | hl
  · have := Nat.mul_le_mul_left n hl
    rw [Nat.mul_succ] at this
    omega
  · rw [hl] at h1; omega
  · have := Nat.mul_le_mul_left n hl
    rw [Nat.mul_succ] at this
    omega
theorem mod_succ {n D i : Nat} : ((D + i) % n + 1) % n = (D + (i + 1)) % n := by rw [Nat.mod_add_mod, Nat.add_assoc]
def CtOK (st : St) (C : List (Int × Nat)) : Prop :=
  (∀ j rs, st.segs[j]? = some rs → (findA C ((st.D + j + 1 : Nat) : Int)).getD 0 = rs.length) ∧ (∀ k : Int, (k ≤ st.D ∨ ((st.D + st.segs.length : Nat) : Int) < k) → findA C k = none)
theorem sorted_few {α : Type} : ∀ (C : List (Int × α)) (a : Int) (m : Nat), SortedA C → (∀ p ∈ C, a ≤ p.1 ∧ p.1 < a + m) → C.length ≤ m
  | [], _, _, _, _ => Nat.zero_le _
  | p :: t, a, m, hs, h => by
    obtain ⟨h1, h2⟩ := List.pairwise_cons.1 hs
    have hp := h p (by simp)
    have := sorted_few t (p.1 + 1) (a + m - (p.1 + 1)).toNat h2 (fun q hq => by have := h1 q hq; have := h q (by simp [hq]); omega)
    simp only [List.length_cons]
    omega
theorem ct_few {st : St} {C : List (Int × Nat)} (h : CtOK st C) (hs : SortedA C) : C.length ≤ st.segs.length := by
  refine sorted_few C (st.D + 1) _ hs fun p hp => ?_
  have hf := find_of_mem hs (k := p.1) (o := p.2) hp
  have h2 := h.2 p.1
  apply Classical.byContradiction
  intro hn
  rw [h2 (by omega)] at hf
  cases hf
theorem segs_len (st : St) : st.segs.length = st.init.length + 1 := by simp [St.segs]
theorem segs_last (st : St) : st.segs[st.init.length]? = some st.last := by simp [St.segs]
theorem vals_of {n : Nat} {st : St} (h : InvS n st) : Vals256 st.M := by
  intro k o ho
  obtain ⟨l, ⟨j, rs, h1, h2, h3⟩, hin⟩ := h.placed k o ho
  exact ((h.recs rs (List.mem_of_getElem? h1)).2 l (List.mem_of_getElem? h3)).2.1 _ hin |>.2.2.1
theorem recs400 {n : Nat} {st : St} (h : InvS n st) {rs : List (List Ch)} (hr : rs ∈ st.segs) : ∀ r ∈ rs.map recF, r.length ≤ 400 := by
  intro r hr2
  obtain ⟨l, hl, rfl⟩ := List.mem_map.1 hr2
  exact ((h.recs rs hr).2 l hl).2.2
/-- The counts behind an append. -/
theorem ct_app {st : St} {C : List (Int × Nat)} (h : CtOK st C) (hs : SortedA C) (l : List Ch) : (findA C ((putSeg st l : Nat) : Int)).getD 0 = putPos st l ∧ CtOK (appS st l) (insA (delA C ((putSeg st l : Nat) : Int)) ((putSeg st l : Nat) : Int) (putPos st l + 1)) := by
  have hf : ∀ (k j : Int) (x : Nat), findA (insA (delA C k) k x) j = if j = k then some x else findA C j := by
    intro k j x
    rw [find_ins _ _ _ (by rw [find_del hs, if_pos rfl]), find_del hs]
    by_cases hj : j = k
    · rw [if_pos hj, if_pos hj]
    · rw [if_neg hj, if_neg hj, if_neg hj]
  have hnum : st.num = st.D + st.init.length + 1 := rfl
  by_cases hfit : fitsS st l
  · have hp : putSeg st l = st.num := by unfold putSeg; rw [if_pos hfit]
    have hq : putPos st l = st.last.length := by unfold putPos; rw [if_pos hfit]
    rw [hp, hq]
    refine ⟨h.1 st.init.length st.last (segs_last st), ?_⟩
    rw [appS_fit hfit]
    have hsg : ({ st with last := st.last ++ [l], M := takesF st.M l st.num st.last.length } : St).segs = st.init ++ [st.last ++ [l]] := rfl
    refine ⟨fun j rs hj => ?_, fun k hk => ?_⟩
    · rw [hf]
      rw [hsg] at hj
      by_cases hji : j < st.init.length
      · rw [List.getElem?_append_left hji] at hj
        rw [if_neg (by show ¬ ((st.D + j + 1 : Nat) : Int) = ((st.num : Nat) : Int); omega)]
        exact h.1 j rs (by unfold St.segs; rw [List.getElem?_append_left hji]; exact hj)
      · rw [List.getElem?_append_right (by omega)] at hj
        have : j = st.init.length := by
          have := (List.getElem?_eq_some_iff.1 hj).1
          simp at this; omega
        subst this
        rw [if_pos (by rfl)]
        have : st.last ++ [l] = rs := by simpa using hj
        rw [← this]; simp
    · rw [hf, hsg] at *
      have hl : (st.init ++ [st.last ++ [l]]).length = st.segs.length := by simp [St.segs]
      rw [if_neg (by rcases hk with hk | hk
                     · show ¬ k = ((st.num : Nat) : Int); have : k ≤ (st.D : Int) := hk; omega
                     · rw [hl, segs_len] at hk; have : ((st.D + (st.init.length + 1) : Nat) : Int) < k := hk; show ¬ k = ((st.num : Nat) : Int); omega)]
      exact h.2 k (by rw [← hl]; exact hk)
  · have hp : putSeg st l = st.num + 1 := by unfold putSeg; rw [if_neg hfit]
    have hq : putPos st l = 0 := by unfold putPos; rw [if_neg hfit]
    rw [hp, hq]
    have hsl := segs_len st
    refine ⟨by rw [h.2 _ (.inr (by omega))]; rfl, ?_⟩
    rw [appS_new hfit]
    have hsg : ({ st with init := st.init ++ [st.last], last := [l], M := takesF st.M l (st.num + 1) 0 } : St).segs = st.segs ++ [[l]] := rfl
    refine ⟨fun j rs hj => ?_, fun k hk => ?_⟩
    · rw [hf]
      rw [hsg] at hj
      by_cases hji : j < st.segs.length
      · rw [List.getElem?_append_left hji] at hj
        rw [if_neg (by show ¬ ((st.D + j + 1 : Nat) : Int) = ((st.num + 1 : Nat) : Int); omega)]
        exact h.1 j rs hj
      · rw [List.getElem?_append_right (by omega)] at hj
        have : j = st.segs.length := by
          have := (List.getElem?_eq_some_iff.1 hj).1
          simp at this; omega
        subst this
        rw [if_pos (by show ((st.D + st.segs.length + 1 : Nat) : Int) = ((st.num + 1 : Nat) : Int); omega)]
        have : [l] = rs := by simpa using hj
        rw [← this]; rfl
    · rw [hf, hsg] at *
      rw [if_neg (by rcases hk with hk | hk
                     · have : k ≤ (st.D : Int) := hk; omega
                     · rw [List.length_append] at hk; have : ((st.D + (st.segs.length + 1) : Nat) : Int) < k := hk; omega)]
      exact h.2 k (by rcases hk with hk | hk
                      · exact .inl hk
                      · rw [List.length_append] at hk; have : ((st.D + (st.segs.length + 1) : Nat) : Int) < k := hk; exact .inr (by omega))
/-! ### The flash behind an append -/
theorem madeF_len (f : Fl) (fs k num : Nat) : (madeF f fs k num).bs.length = f.bs.length := by
  show (progL (progL f.bs _ _) _ _).length = _
  rw [progL_len, progL_len]
theorem appF_len (f : Fl) (a : Nat) (r : List UInt8) : (appF f a r).bs.length = f.bs.length := by
  show (progL (layF f a (laidL r)).bs _ _).length = _
  rw [progL_len, layF_len]
theorem appF_cs (f : Fl) (a : Nat) (r : List UInt8) : (appF f a r).cs = f.cs := by
  have : ∀ (l : List (List UInt8)) (f : Fl) (a : Nat), (layF f a l).cs = f.cs := by
    intro l
    induction l with
    | nil => intro f a; rfl
    | cons s l ih => intro f a; exact ih _ _
  exact this _ _ _
theorem appF_live (f : Fl) (a : Nat) (r : List UInt8) (h : f.dead = false ∧ f.armed = 0) : (appF f a r).dead = false ∧ (appF f a r).armed = 0 := layF_live _ _ _ h.1 h.2
theorem fl_fit {n : Nat} {f : Fl} {st : St} {l : List Ch} (hF : FlOK n f st) (hI : InvS n st) (hl : FormC l) (hfit : fitsS st l) (hlen : 512 * (1 + n) ≤ f.bs.length) :
    FlOK n (appF f (512 * (1 + (st.D + st.init.length) % n) + 64 * (1 + usedS st.last)) (recF l)) (appS st l) := by
  intro j hj
  have hfew := hI.few
  have hn : 0 < n := by omega
  have hl400 : (recF l).length ≤ 400 := hl.2.2
  have hfit' : usedS st.last + pgs l ≤ 7 := hfit
  have hmj : (st.D + j) % n < n := Nat.mod_lt _ hn
  have hml : (st.D + st.init.length) % n < n := Nat.mod_lt _ hn
  rw [appS_fit hfit]
  show blockOf _ (1 + (st.D + j) % n) = match (st.init ++ [st.last ++ [l]])[j]? with | some rs => segB (st.D + j + 1) (rs.map recF) | none => fullB
  by_cases hji : j = st.init.length
  · subst hji
    have h1 := hF st.init.length hj
    rw [segs_last st] at h1
    have h2 := seg_app f (1 + (st.D + st.init.length) % n) (st.D + st.init.length + 1) (st.last.map recF) (recF l) (recs400 hI (by simp [St.segs])) hl400 (by omega) h1 (by rw [usedS_eq]; exact hfit')
    rw [usedS_eq] at h2
    rw [h2]
    simp
  · have h1 := hF j hj
    rw [appF_other f (1 + (st.D + st.init.length) % n) (1 + (st.D + j) % n) (64 * (1 + usedS st.last)) (recF l) (by have := mod_ne (D := st.D) hj (by omega : st.init.length < n) hji; omega) hl400 (by omega) (by unfold pgs at hfit'; omega) (pages_pos _), h1]
    unfold St.segs
    by_cases hlt : j < st.init.length
    · rw [List.getElem?_append_left hlt, List.getElem?_append_left hlt]
    · rw [List.getElem?_eq_none (by simp; omega), List.getElem?_eq_none (by simp; omega)]
theorem fl_new {n : Nat} {f : Fl} {st : St} {l : List Ch} (hF : FlOK n f st) (hI : InvS n st) (hl : FormC l) (hfit : ¬ fitsS st l) (hroom : st.init.length + 2 ≤ n) (hlen : 512 * (1 + n) ≤ f.bs.length) :
    FlOK n (appF (madeF f 1 ((st.D + (st.init.length + 1)) % n) (st.num + 1)) (512 * (1 + (st.D + (st.init.length + 1)) % n) + 64) (recF l)) (appS st l) := by
  intro j hj
  have hn : 0 < n := by omega
  have hl400 : (recF l).length ≤ 400 := hl.2.2
  have h7 := pgs_le7 hl
  have hmj : (st.D + j) % n < n := Nat.mod_lt _ hn
  have hml : (st.D + (st.init.length + 1)) % n < n := Nat.mod_lt _ hn
  have hfree := hF (st.init.length + 1) (by omega)
  rw [List.getElem?_eq_none (by rw [segs_len]; omega)] at hfree
  rw [appS_new hfit]
  show blockOf _ (1 + (st.D + j) % n) = match (st.segs ++ [[l]])[j]? with | some rs => segB (st.D + j + 1) (rs.map recF) | none => fullB
  by_cases hji : j = st.init.length + 1
  · subst hji
    have h1 := seg_made f 1 ((st.D + (st.init.length + 1)) % n) (st.num + 1) (by omega) hfree
    have h2 := seg_app (madeF f 1 ((st.D + (st.init.length + 1)) % n) (st.num + 1)) (1 + (st.D + (st.init.length + 1)) % n) (st.num + 1) [] (recF l) (by simp) hl400 (by rw [madeF_len]; omega) h1 (by simp only [usedF]; unfold pgs at h7; omega)
    simp only [usedF, List.nil_append, Nat.add_zero, Nat.mul_one] at h2
    rw [h2, List.getElem?_append_right (by rw [segs_len]; omega), segs_len]
    have e : st.num + 1 = st.D + (st.init.length + 1) + 1 := by unfold St.num; omega
    rw [e]
    simp
  · have h1 := hF j hj
    have hne := mod_ne (D := st.D) hj (by omega : st.init.length + 1 < n) hji
    rw [appF_other _ (1 + (st.D + (st.init.length + 1)) % n) (1 + (st.D + j) % n) 64 (recF l) (by omega) hl400 (by rw [madeF_len]; omega) (by unfold pgs at h7; omega) (pages_pos _), seg_made_other f 1 _ _ _ (by omega) (by omega), h1]
    by_cases hlt : j < st.segs.length
    · rw [List.getElem?_append_left hlt]
    · rw [segs_len] at hlt
      rw [List.getElem?_eq_none (by rw [segs_len]; omega), List.getElem?_eq_none (by simp [St.segs]; omega)]
/-- The flash behind a drop. -/
theorem fl_drop {n : Nat} {f : Fl} {st : St} {rs0 : List (List Ch)} {t : List (List (List Ch))} (ht : st.init = rs0 :: t) (M : OM) (hF : FlOK n f st) (hfew : st.init.length + 1 ≤ n) (hlen : 512 * (1 + n) ≤ f.bs.length) (f' : Fl) (hf' : f'.bs = eraseL f.bs (1 + st.D % n)) :
    FlOK n f' { st with D := st.D + 1, init := t, M := M } := by
  intro j hj
  have hn : 0 < n := by omega
  have hil : st.init.length = t.length + 1 := by rw [ht]; rfl
  have hm0 : st.D % n < n := Nat.mod_lt _ hn
  show blockOf f'.bs (1 + (st.D + 1 + j) % n) = match (t ++ [st.last])[j]? with | some rs => segB (st.D + 1 + j + 1) (rs.map recF) | none => fullB
  rw [hf']
  by_cases hji : j = n - 1
  · subst hji
    have e : (st.D + 1 + (n - 1)) % n = st.D % n := by rw [show st.D + 1 + (n - 1) = st.D + n by omega, Nat.add_mod_right]
    rw [e, erase_same (by omega), List.getElem?_eq_none (by simp; omega)]
  · have h1 := hF (j + 1) (by omega)
    have hne := mod_ne (D := st.D) (by omega : j + 1 < n) hn (by omega : j + 1 ≠ 0)
    rw [Nat.add_zero] at hne
    rw [show st.D + 1 + j = st.D + (j + 1) by omega]
    have hmj : (st.D + (j + 1)) % n < n := Nat.mod_lt _ hn
    have hne2 : 1 + (st.D + (j + 1)) % n ≠ 1 + st.D % n := fun e => hne (Nat.add_left_cancel e)
    rw [erase_other (by omega) hne2, h1]
    have e : st.segs = rs0 :: (t ++ [st.last]) := by unfold St.segs; rw [ht]; rfl
    rw [e, List.getElem?_cons_succ]
/-! ### The store, whole -/
structure SAt (w : World) (sb lb pb fb bb cb mb kb n : Nat) (v : Value) (st : St) (f : Fl) : Prop where
  lg : LgAt w lb pb fb bb cb 1 n v (sgs n st.D st.segs) f false
  core : ∃ C, CoreAt w sb pb lb mb kb (sumA wO st.M) st.M C ∧ CtOK st C
  fl : FlOK n f st
  inv : InvS n st
  live : f.dead = false ∧ f.armed = 0
  sep : ∀ x, x ∈ [sb, mb, kb] → x ∉ LgT lb fb bb cb v ∧ x ≠ pb
/-- The blocks that the store's calls may turn. -/
def StT (sb lb fb bb cb mb kb : Nat) (v : Value) : List Nat := [sb, mb, kb] ++ LgT lb fb bb cb v
section
variable {w : World} {sb lb pb fb bb cb mb kb n : Nat} {v : Value} {st : St} {f : Fl}
theorem SAt.same {w' : World} (h : SAt w sb lb pb fb bb cb mb kb n v st f) (k : Kept [] w w') : SAt w' sb lb pb fb bb cb mb kb n v st f := by
  obtain ⟨C, h1, h2⟩ := h.core
  exact ⟨h.lg.same k, ⟨C, h1.same k, h2⟩, h.fl, h.inv, h.live, h.sep⟩
theorem SAt.kept {w' : World} {T : List Nat} (h : SAt w sb lb pb fb bb cb mb kb n v st f) (k : Kept T w w') (hT : ∀ x ∈ T, x ∉ StT sb lb fb bb cb mb kb v ∧ x ≠ pb) : SAt w' sb lb pb fb bb cb mb kb n v st f := by
  obtain ⟨C, h1, h2⟩ := h.core
  have hno : ∀ y, y ∈ StT sb lb fb bb cb mb kb v → y ∉ T := fun y hy hm => (hT y hm).1 hy
  refine ⟨h.lg.kept k (hno _ (by simp [StT, LgT])) (fun hm => (hT _ hm).2 rfl) (hno _ (by simp [StT, LgT])) (hno _ (by simp [StT, LgT])) (hno _ (by simp [StT, LgT])) (fun q hq => hno q (by simp [StT, LgT, hq])), ⟨C, h1.kept k (hno _ (by simp [StT])) (hno _ (by simp [StT])) (hno _ (by simp [StT])), h2⟩, h.fl, h.inv, h.live, h.sep⟩
theorem SAt.bound (h : SAt w sb lb pb fb bb cb mb kb n v st f) : 1 + n ≤ 256 ∧ 512 * (1 + n) ≤ f.bs.length := by
  have := h.lg.pt.bound
  omega
theorem StT.subL {w' : World} (k : Kept (LgT lb fb bb cb v) w w') : Kept (StT sb lb fb bb cb mb kb v) w w' := k.mono (fun x hx => List.mem_append.2 (.inr hx))
theorem StT.subC {w' : World} (k : Kept [sb, mb, kb] w w') : Kept (StT sb lb fb bb cb mb kb v) w w' := k.mono (fun x hx => List.mem_append.2 (.inl hx))
theorem StT.sub0 {w' : World} (k : Kept [] w w') : Kept (StT sb lb fb bb cb mb kb v) w w' := k.mono (by simp)
end
def SPost (r : Value) (sb lb pb fb bb cb mb kb n : Nat) (v : Value) (w : World) (Q : St → Fl → Prop) (e : Ending) (w' : World) : Prop :=
  e = .returned r ∧ ∃ v' st' f', Fresh w v v' ∧ SAt w' sb lb pb fb bb cb mb kb n v' st' f' ∧ Kept (StT sb lb fb bb cb mb kb v) w w' ∧ Q st' f'
theorem stold_any (w : World) (sb pb lb mb kb : Nat) (x : Int) (M : OM) (C : List (Int × Nat)) (h : CoreAt w sb pb lb mb kb x M C) (k : Int) (hk : (k == 2) = false) :
    Calls Tryz.prog 22 #[Ptr sb, I k] w fun e w' => e = .returned (I k) ∧ CoreAt w' sb pb lb mb kb x M C ∧ Kept [sb] w w' := by
  obtain ⟨c0, c1, c2, c3, c4, c5⟩ := h.cells
  have hf := h.free
  have H := Lib.hid h
  clear h
  go_enter Tryz.func22, Tryz.ntmps22
  go_wp2_with (fail)
  go_ret
  have kk : Kept [sb] w (w.setCell ⟨sb, 5, none⟩ (.bool false)) := (Kept.refl _ _).setCell (.inl (by simp)) _
  have hb := heap_setCell_at H.out.blk 5 (.bool false)
  refine ⟨rfl, ⟨by simpa using hb, H.out.ob.kept kk (by simpa using Ne.symm H.out.n1), H.out.ct.kept kk (by simpa using Ne.symm H.out.n2), H.out.n1, H.out.n2, H.out.n3⟩, kk⟩
theorem snewest_any (w : World) (sb lb pb fb bb cb n : Nat) (v : Value) (segs : List Sg) (f : Fl) (h : LgAt w lb pb fb bb cb 1 n v segs f false) (c1 : w.cell? ⟨sb, 1, none⟩ = some (Ptr lb)) (k num : Nat) (hsl : segs.length = k + 1) (hk : k ≤ 900) (hlast : (segs.map (·.2))[k]? = some num) : Calls Tryz.prog 61 #[Ptr sb] w fun e w' => e = .returned (I num) ∧ Kept [] w w' := by
  have HS := Lib.hid (segs_any w lb pb fb bb cb 1 n v _ f false h (by intro he; rw [he] at hsl; simp at hsl) (by rw [hsl]; omega))
  rw [hsl] at HS
  have hkI : (k : Int) ≤ 900 := by omega
  have hkI0 : (0 : Int) ≤ k := by omega
  have hr : Hid (∀ (W : World) (v' : Value), W.ownsRow (w.heap.size + 1) 3 1 v' (k + 1) ((segs.map (·.2)).map fun x : Nat => I x) → ∃ g c, v' = .slice (some ⟨g, 0, none⟩) (k + 1) c ∧ W.cell? ⟨g, k, none⟩ = some (I num)) := Lib.hid (by
    intro W v' ow
    obtain ⟨g, c, e, _, hc⟩ := row_cells1 ow (by omega)
    refine ⟨g, c, e, ?_⟩
    rw [hc k (by omega), List.getElem?_map, hlast]
    rfl)
  clear h hsl hk hlast
  go_enter Tryz.func61, Tryz.ntmps61
  go_wp2_with (fail)
  refine HS.out.mono ?_
  rintro e w1 ⟨v', rfl, own, k1⟩
  obtain ⟨g, c, rfl, hcell⟩ := hr.out w1 v' own
  have K1 := Lib.hid k1
  clear own k1
  go_wp2_with (fail)
  go_ret
  exact ⟨rfl, K1.out⟩
/-! ### append -/
theorem app_num (st : St) (l : List Ch) : (appS st l).num = putSeg st l := by
  unfold putSeg
  split
  · next h => rw [appS_fit h]; rfl
  · next h => rw [appS_new h]; unfold St.num; simp; omega
theorem app_segs (n : Nat) (st : St) (l : List Ch) : ∃ init', (appS st l).segs = init' ++ [(appS st l).last] ∧ init' = (appS st l).init := ⟨_, rfl, rfl⟩
theorem last_few {n : Nat} {st : St} (h : InvS n st) : st.last.length ≤ 7 := by
  have h1 := (h.recs st.last (by simp [St.segs])).1
  have : ∀ rs : List (List Ch), rs.length ≤ usedS rs := fun rs => by
    induction rs with
    | nil => exact Nat.le_refl _
    | cons x t ih => have := pgs_pos x; simp only [List.length_cons, usedS]; omega
  have := this st.last
  omega
theorem fresh_mono {w w' : World} {v v' : Value} (h : Fresh w' v v') (hs : w.heap.size ≤ w'.heap.size) : Fresh w v v' := fun q hq => (h q hq).imp id (Nat.le_trans hs)
/-- The log stays while the store's own blocks turn. -/
theorem LgAt.beside {w0 w w' : World} {sb lb pb fb bb cb mb kb fs n : Nat} {v v' : Value} {segs : List Sg} {f : Fl} {d : Bool} (h : LgAt w lb pb fb bb cb fs n v' segs f d) (k : Kept [sb, mb, kb] w w') (hfr : Fresh w0 v v') (hs : ∀ x ∈ [sb, mb, kb], x ∉ LgT lb fb bb cb v ∧ x ≠ pb) (hlt : ∀ x ∈ [sb, mb, kb], x < w0.heap.size) : LgAt w' lb pb fb bb cb fs n v' segs f d := by
  have hno : ∀ y, y ∈ LgT lb fb bb cb v → y ∉ [sb, mb, kb] := fun y hy hm => (hs y hm).1 hy
  refine h.kept k (hno _ (by simp [LgT])) (fun hm => (hs _ hm).2 rfl) (hno _ (by simp [LgT])) (hno _ (by simp [LgT])) (hno _ (by simp [LgT])) (fun q hq hm => ?_)
  rcases hfr q hq with h1 | h1
  · exact hno q (by simp [LgT, h1]) hm
  · have := hlt q hm; omega
theorem sep_fresh {w0 : World} {sb lb fb bb cb mb kb pb : Nat} {v v' : Value} (hfr : Fresh w0 v v') (hs : ∀ x, x ∈ [sb, mb, kb] → x ∉ LgT lb fb bb cb v ∧ x ≠ pb) (hlt : ∀ x ∈ [sb, mb, kb], x < w0.heap.size) : ∀ x, x ∈ [sb, mb, kb] → x ∉ LgT lb fb bb cb v' ∧ x ≠ pb := by
  intro x hx
  refine ⟨fun hm => ?_, (hs x hx).2⟩
  have h1 := (hs x hx).1
  simp only [LgT, List.mem_append, Option.mem_toList] at hm h1
  rcases hm with hm | hm
  · exact h1 (.inl hm)
  · rcases hfr x (by simpa using hm) with h2 | h2
    · exact h1 (.inr (by simpa using h2))
    · have := hlt x hx; omega
set_option maxHeartbeats 8000000 in
theorem oappend_any (w : World) (sb lb pb fb bb cb mb kb n : Nat) (v : Value) (st : St) (f : Fl) (h : SAt w sb lb pb fb bb cb mb kb n v st f) (l : List Ch) (cv : Value) (hv : ChsAt w cv l) (hvq : ∀ q, cv.ownBlock = some q → q < w.heap.size ∧ q ∉ StT sb lb fb bb cb mb kb v)
    (hl : FormC l) (hl2 : l.length ≤ 1000) (spare : Nat) (hsp : spare ≤ 1000) (hroom : ¬ fitsS st l → spare + (st.init.length + 1) < n) (hnum : st.num ≤ 1000000000) (hsum : sumA wO st.M ≤ 100000) :
    Calls Tryz.prog 29 #[Ptr sb, cv, I spare] w (SPost (I 0) sb lb pb fb bb cb mb kb n v w fun st' f' => st' = appS st l ∧ f'.cs = f.cs) := by
  obtain ⟨C, hc, hct⟩ := h.core
  have hb := h.bound
  have hinv := h.inv
  have hfew := hinv.few
  have hlast := (hinv.recs st.last (by simp [St.segs])).1
  have hn : 0 < n := by omega
  have hbb : (st.D + st.init.length) % n < n := Nat.mod_lt _ hn
  have hseg0 : sgs n st.D st.segs = sgs n st.D st.init ++ [((st.D + st.init.length) % n, st.num)] := by
    unfold St.segs; rw [sgs_snoc]; rfl
  have hroom0 : roomF (blockOf f.bs (1 + (st.D + st.init.length) % n)) 7 = 7 - usedS st.last := by
    rw [h.fl st.init.length (by omega), segs_last]
    simp only
    rw [seg_room _ _ (recs400 hinv (by simp [St.segs])) (by rw [usedS_eq]; exact hlast), usedS_eq]
  have hpg7 := pgs_le7 hl
  have e6 : (256 : Nat) ^ 6 = 281474976710656 := by decide
  have hinvA := appS_inv hinv hl (fun hf => by have := hroom hf; omega)
  -- the log's append
  have HAPP : ∃ f', f'.cs = f.cs ∧ (f'.dead = false ∧ f'.armed = 0) ∧ FlOK n f' (appS st l) ∧ ∀ W, Kept [] w W → Calls Tryz.prog 59 #[Ptr lb, S (recF l), I spare] W (LgPost (I 0) lb pb fb bb cb 1 n v W (sgs n (appS st l).D (appS st l).segs) f' false) := by
    by_cases hfit : fitsS st l
    · have hfit' : usedS st.last + pgs l ≤ 7 := hfit
      refine ⟨appF f (512 * (1 + (st.D + st.init.length) % n) + 64 * (1 + usedS st.last)) (recF l), appF_cs _ _ _, appF_live _ _ _ h.live, fl_fit h.fl hinv hl hfit hb.2, fun W k => ?_⟩
      have hlg := h.lg.same k
      rw [hseg0] at hlg
      have := append_any W lb pb fb bb cb 1 n v (sgs n st.D st.init) ((st.D + st.init.length) % n) st.num f hlg (by rw [sgs_len]; omega) h.live.1 h.live.2 hbb (recF l) hl.2.2 spare hsp (sgs n st.D st.init) ((st.D + st.init.length) % n) st.num f (7 - usedS st.last) (.inl ⟨by rw [hroom0]; show pgs l ≤ _; omega, rfl, rfl, rfl, rfl⟩) hroom0 (by omega) (by show pgs l ≤ _; omega)
      have e1 : sgs n (appS st l).D (appS st l).segs = sgs n st.D st.init ++ [((st.D + st.init.length) % n, st.num)] := by
        rw [appS_fit hfit]
        show sgs n st.D (st.init ++ [st.last ++ [l]]) = _
        rw [sgs_snoc]; rfl
      rw [e1, show 512 * (1 + (st.D + st.init.length) % n) + 64 * (1 + usedS st.last) = 512 * 1 + ((st.D + st.init.length) % n * 512 + (8 - (7 - usedS st.last)) * 64) by omega]
      exact this
    · have hr := hroom hfit
      have hnf : 7 < usedS st.last + pgs l := by unfold fitsS at hfit; omega
      have hfree := h.fl (st.init.length + 1) (by omega)
      rw [List.getElem?_eq_none (by rw [segs_len]; omega)] at hfree
      simp only at hfree
      have hmade := seg_made f 1 ((st.D + (st.init.length + 1)) % n) (st.num + 1) (by have := Nat.mod_lt (st.D + (st.init.length + 1)) hn; omega) hfree
      have hrm7 : roomF (blockOf (madeF f 1 ((st.D + (st.init.length + 1)) % n) (st.num + 1)).bs (1 + (st.D + (st.init.length + 1)) % n)) 7 = 7 := by
        rw [hmade]
        exact seg_room _ [] (by simp) (by simp [usedF])
      refine ⟨appF (madeF f 1 ((st.D + (st.init.length + 1)) % n) (st.num + 1)) (512 * (1 + (st.D + (st.init.length + 1)) % n) + 64) (recF l), appF_cs _ _ _, appF_live _ _ _ ⟨h.live.1, h.live.2⟩, fl_new h.fl hinv hl hfit (by omega) hb.2, fun W k => ?_⟩
      have hlg := h.lg.same k
      rw [hseg0] at hlg
      have hms : ((st.D + st.init.length) % n + 1) % n = (st.D + (st.init.length + 1)) % n := mod_succ
      have := append_any W lb pb fb bb cb 1 n v (sgs n st.D st.init) ((st.D + st.init.length) % n) st.num f hlg (by rw [sgs_len]; omega) h.live.1 h.live.2 hbb (recF l) hl.2.2 spare hsp (sgs n st.D st.init ++ [((st.D + st.init.length) % n, st.num)]) ((st.D + (st.init.length + 1)) % n) (st.num + 1) (madeF f 1 ((st.D + (st.init.length + 1)) % n) (st.num + 1)) 7 (.inr ⟨by rw [hroom0]; show _ < pgs l; omega, by rw [sgs_len]; omega, by rw [hms]; exact hfree, by rw [e6]; omega, rfl, hms.symm, rfl, by rw [hms]⟩) hrm7 (by omega) (by show pgs l ≤ _; omega)
      have e1 : sgs n (appS st l).D (appS st l).segs = sgs n st.D st.init ++ [((st.D + st.init.length) % n, st.num)] ++ [((st.D + (st.init.length + 1)) % n, st.num + 1)] := by
        rw [appS_new hfit]
        show sgs n st.D ((st.init ++ [st.last]) ++ [[l]]) = _
        rw [sgs_snoc, sgs_snoc]
        simp [St.num]
        omega
      rw [e1, show 512 * (1 + (st.D + (st.init.length + 1)) % n) + 64 = 512 * 1 + ((st.D + (st.init.length + 1)) % n * 512 + (8 - 7) * 64) by omega]
      exact this
  obtain ⟨f', hcs, hlive, hfl, HAPP⟩ := HAPP
  have HA := Lib.hid HAPP
  have HREC := Lib.hid (fun W (k : Kept [] w W) => orecord_any l cv W (hv.same k) hl2 (fun c hc => ⟨(hl.2.1 c hc).1, (hl.2.1 c hc).2.1, (hl.2.1 c hc).2.2.1⟩))
  have HF := Lib.hid (And.intro hcs (And.intro hlive (And.intro hfl (And.intro hinvA h))))
  have HV := Lib.hid (And.intro hv (And.intro hvq (And.intro hl hl2)))
  have HCE := Lib.hid (fun W (k : Kept [] w W) => (hc.same k).cells)
  have HCC := Lib.hid (And.intro hc hct)
  have HLT : Hid (∀ x ∈ [sb, mb, kb], x < w.heap.size) := Lib.hid (by
    intro x hx
    simp at hx
    rcases hx with rfl | rfl | rfl
    · exact hc.lt
    · exact hc.ob.lt
    · exact hc.ct.lt)
  obtain ⟨c0, c1, c2, c3, c4, c5⟩ := hc.cells
  have HN := Lib.hid (And.intro hnum (And.intro hsum (And.intro hfew hb.1)))
  clear HAPP hcs hlive hfl hinvA h hv hvq hl hl2 hc hct hroom hroom0 hseg0 hlast hinv hfew hb hbb hn hpg7 e6 hnum hsum
  go_enter Tryz.func29, Tryz.ntmps29
  go_upto_region 1 with (fail)
  go_cut [7] from 8 to 17 (fun v7 wx => v7 = I 0 ∧ ∃ v', Fresh w v v' ∧ LgAt wx lb pb fb bb cb 1 n v' (sgs n (appS st l).D (appS st l).segs) f' false ∧ CoreAt wx sb pb lb mb kb (sumA wO st.M) st.M C ∧ Kept (StT sb lb fb bb cb mb kb v) w wx)
  case first =>
    obtain ⟨t0, t1, t2, t3, t4, t5⟩ := HCE.out w.drew ((Kept.refl [] w).drew)
    go_region_with (first
      | (go_at_call 25; (with_reducible refine (HREC.out _ (Kept.refl [] w).drew).mono ?_); rintro e w2 ⟨rfl, k2⟩; have K2 := (Kept.refl [] w).drew.trans' k2; have e1 := (HCE.out _ K2).2.1)
      | (go_at_call 59; (with_reducible refine (HA.out _ K2).mono ?_); rintro e w3 ⟨rfl, v', hfr, hlg, k3⟩; have hc3 := (HCC.out.1.same K2).kept k3 (HF.out.2.2.2.2.sep _ (by simp)).1 (HF.out.2.2.2.2.sep _ (by simp)).1 (HF.out.2.2.2.2.sep _ (by simp)).1)
      | (go_at_call 22; (with_reducible refine (stold_any _ sb pb lb mb kb _ _ C hc3 0 rfl).mono ?_); rintro e w4 ⟨rfl, hc4, k4⟩))
    all_goals
      go_wp2
      go_meet
      have hlt := HLT.out
      exact ⟨rfl, v', fresh_mono hfr K2.size, hlg.beside (sb := sb) (mb := mb) (kb := kb) (k4.mono (by simp)) (fresh_mono hfr K2.size) HF.out.2.2.2.2.sep hlt, hc4, (StT.sub0 K2).trans' ((StT.subL k3).trans' (StT.subC (k4.mono (by simp))))⟩
  case rest =>
  obtain ⟨rfl, v', hfr, hlg, hcw, kw⟩ := hcut
  have hlenA : (sgs n (appS st l).D (appS st l).segs).length = (appS st l).init.length + 1 := by rw [sgs_len, segs_len]
  have hfewA := HF.out.2.2.2.1.few
  have hnumA : ((sgs n (appS st l).D (appS st l).segs).map (·.2))[(appS st l).init.length]? = some (putSeg st l) := by
    rw [sgs_nums, List.getElem?_map, List.getElem?_range (by rw [segs_len]; omega), ← app_num]
    rfl
  have HNW := Lib.hid (snewest_any wc sb lb pb fb bb cb n v' _ f' hlg hcw.cells.2.1 _ _ hlenA (by have := HN.out.2.2.2; omega) hnumA)
  have HX := Lib.hid (And.intro hfr (And.intro hlg (And.intro hcw kw)))
  clear hlenA hfewA hnumA hfr hlg hcw kw c0 c1 c2 c3 c4 c5
  go_wp2_with (fail)
  refine HNW.out.mono ?_
  rintro e w5 ⟨rfl, k5⟩
  obtain ⟨hfr, hlg, hcw, kw⟩ := HX.out
  obtain ⟨hv, hvq, hl, hl2⟩ := HV.out
  obtain ⟨hct1, hct2⟩ := ct_app HCC.out.2 HCC.out.1.ct.srt l
  have hps : putSeg st l ≤ 1000000000001 := by have := HN.out.1; unfold putSeg; split <;> omega
  have hpp : putPos st l ≤ 7 := by have := last_few HF.out.2.2.2.2.inv; unfold putPos; split <;> omega
  have hcl : C.length ≤ 1000 := by
    have h1 := ct_few HCC.out.2 HCC.out.1.ct.srt
    rw [segs_len] at h1
    have := HN.out.2.2.1
    have := HN.out.2.2.2
    omega
  have HTK := Lib.hid (takes_any w5 sb pb lb mb kb st.M C (hcw.same k5) l cv (hv.kept (kw.trans' (StT.sub0 k5)) (fun q hq => (hvq q hq).2)) (fun q hq hm => (hvq q hq).2 (List.mem_append.2 (.inl hm))) hl2 (fun c hc => ⟨(hl.2.1 c hc).1, (hl.2.1 c hc).2.1, (hl.2.1 c hc).2.2.1⟩) (vals_of HF.out.2.2.2.2.inv) HN.out.2.1 (putSeg st l) (putPos st l) (by have := HN.out.1; unfold putSeg; split <;> omega) hct1 (by omega) hcl)
  have HX2 := Lib.hid (And.intro hfr (And.intro (hlg.same k5) (And.intro (kw.trans' (StT.sub0 k5)) hct2)))
  clear hfr hlg hcw kw hv hvq hl hl2 hct1 hct2 hps hpp hcl k5 HX HNW
  go_wp2_with (fail)
  refine HTK.out.mono ?_
  rintro e w6 ⟨rfl, hc6, k6⟩
  have H6 := Lib.hid (And.intro hc6 k6)
  clear hc6 k6 HTK
  go_wp2_with (fail)
  go_ret
  obtain ⟨hfr, hlg, kw, hct⟩ := HX2.out
  obtain ⟨hc6, k6⟩ := H6.out
  rw [← appS_M] at hc6
  refine ⟨rfl, v', appS st l, f', hfr, ⟨hlg.beside k6 hfr HF.out.2.2.2.2.sep HLT.out, ⟨_, hc6, hct⟩, HF.out.2.2.1, HF.out.2.2.2.1, HF.out.2.1, sep_fresh hfr HF.out.2.2.2.2.sep HLT.out⟩, kw.trans' (StT.subC k6), rfl, HF.out.1⟩
end
section
set_option maxHeartbeats 8000000
set_option maxRecDepth 100000
/-! ### cleans -/
theorem ct_drop {st : St} {C : List (Int × Nat)} {rs0 : List (List Ch)} {t : List (List (List Ch))} (ht : st.init = rs0 :: t) (h : CtOK st C) (hs : SortedA C) : CtOK { st with D := st.D + 1, init := t } (delA C ((st.D + 1 : Nat) : Int)) := by
  have e : st.segs = rs0 :: (t ++ [st.last]) := by unfold St.segs; rw [ht]; rfl
  have hl : st.segs.length = (t ++ [st.last]).length + 1 := by rw [e]; rfl
  refine ⟨fun j rs hj => ?_, fun k hk => ?_⟩
  · rw [find_del hs, if_neg (by show ¬ ((st.D + 1 + j + 1 : Nat) : Int) = ((st.D + 1 : Nat) : Int); omega)]
    have := h.1 (j + 1) rs (by rw [e, List.getElem?_cons_succ]; exact hj)
    rw [show st.D + (j + 1) + 1 = st.D + 1 + j + 1 by omega] at this
    exact this
  · rw [find_del hs]
    by_cases hk1 : k = ((st.D + 1 : Nat) : Int)
    · rw [if_pos hk1]
    · rw [if_neg hk1]
      refine h.2 k ?_
      rcases hk with hk | hk
      · have : k ≤ ((st.D + 1 : Nat) : Int) := hk
        exact .inl (by omega)
      · have : ((st.D + 1 + (t ++ [st.last]).length : Nat) : Int) < k := hk
        exact .inr (by omega)
theorem fresh_trans {w w' : World} {v v' v'' : Value} (h : Fresh w v v') (h' : Fresh w' v' v'') (hs : w.heap.size ≤ w'.heap.size) : Fresh w v v'' := fun q hq => by
  rcases h' q hq with h1 | h1
  · exact h q h1
  · exact .inr (Nat.le_trans hs h1)
theorem stT_fresh {w0 : World} {sb lb fb bb cb mb kb : Nat} {v v' : Value} (h : Fresh w0 v v') : ∀ x ∈ StT sb lb fb bb cb mb kb v', x ∈ StT sb lb fb bb cb mb kb v ∨ w0.heap.size ≤ x := by
  intro x hx
  simp only [StT, LgT, List.mem_append, Option.mem_toList] at hx ⊢
  rcases hx with hx | hx | hx
  · exact .inl (.inl hx)
  · exact .inl (.inr (.inl hx))
  · rcases h x (by simpa using hx) with h1 | h1
    · exact .inl (.inr (.inr (by simpa using h1)))
    · exact .inr h1
theorem stT_lt {w : World} {sb lb pb fb bb cb mb kb n : Nat} {v : Value} {st : St} {f : Fl} (h : SAt w sb lb pb fb bb cb mb kb n v st f) : (∀ x ∈ StT sb lb fb bb cb mb kb v, x < w.heap.size) ∧ pb < w.heap.size := by
  obtain ⟨C, hc, _⟩ := h.core
  refine ⟨fun x hx => ?_, lt_of_block h.lg.pt.blk⟩
  have := h.lg.lt
  have := h.lg.n2
  have := h.lg.n3
  have := h.lg.n4
  have := hc.lt
  have := hc.ob.lt
  have := hc.ct.lt
  simp only [StT, LgT, List.mem_append, Option.mem_toList] at hx
  rcases hx with hx | hx | hx
  · simp at hx; omega
  · simp at hx; omega
  · exact (own_lt h.lg.own x (by simpa using hx)).2
theorem filter_nn (l : List Ch) (f : Ch → Bool) : (l.filter fun x => !(!f x)) = l.filter f := by simp
set_option maxHeartbeats 8000000 in
theorem cleans_any (w : World) (sb lb pb fb bb cb mb kb n : Nat) (v : Value) (st : St) (f : Fl) (h : SAt w sb lb pb fb bb cb mb kb n v st f) (m U : Nat) (hp : CleanPre n st m U) (hnum : st.num ≤ 900000000) :
    Calls Tryz.prog 28 #[Ptr sb] w (SPost (I 0) sb lb pb fb bb cb mb kb n v w fun st' f' => st' = cleanS st ∧ f'.cs = f.cs.set (1 + st.D % n) (wrap64 (numAt f.cs (1 + st.D % n) + 1))) := by
  obtain ⟨rs0, t, ht⟩ : ∃ rs0 t, st.init = rs0 :: t := by
    cases hi : st.init with
    | nil => have := hp.free; have := hp.eight; rw [hi] at *; simp at *; omega
    | cons a b => exact ⟨a, b, rfl⟩
  have hb := h.bound
  have hil : st.init.length = t.length + 1 := by rw [ht]; rfl
  have hfree := hp.free
  have h8 := hp.eight
  have hsegs : st.segs = rs0 :: (t ++ [st.last]) := by unfold St.segs; rw [ht]; rfl
  have hsl : (sgs n st.D st.segs).length = st.init.length + 1 := by rw [sgs_len, segs_len]
  have hs0 : ∀ (hh : 0 < (sgs n st.D st.segs).length), (sgs n st.D st.segs)[0] = (st.D % n, st.D + 1) := fun hh => by rw [sgs_at]; rfl
  have hrs := hp.inv.recs rs0 (by simp [hsegs])
  have hrsl : rs0.length ≤ 7 := by
    have : ∀ rs : List (List Ch), rs.length ≤ usedS rs := fun rs => by
      induction rs with
      | nil => exact Nat.le_refl _
      | cons x t ih => have := pgs_pos x; simp only [List.length_cons, usedS]; omega
    have := this rs0
    omega
  have hblk : blockOf f.bs (1 + st.D % n) = segB (st.D + 1) (rs0.map recF) := by
    have := h.fl 0 (by omega)
    rw [hsegs] at this
    exact this
  obtain ⟨C, hc, hct⟩ := h.core
  obtain ⟨c0, c1, c2, c3, c4, c5⟩ := hc.cells
  -- the oldest segment's number
  have HSG := Lib.hid (fun W (k : Kept [] w W) => segs_any W lb pb fb bb cb 1 n v _ f false (h.lg.same k) (by intro he; rw [he] at hsl; simp at hsl) (by rw [hsl]; omega))
  have HSG0 : Hid (∀ (W : World) (v' : Value) (B : Nat), W.ownsRow B 3 1 v' (sgs n st.D st.segs).length (((sgs n st.D st.segs).map (·.2)).map fun x : Nat => I x) → ∃ g c, v' = .slice (some ⟨g, 0, none⟩) (st.init.length + 1) c ∧ W.cell? ⟨g, 0, none⟩ = some (I (st.D + 1 : Nat))) := Lib.hid (by
    intro W v' B ow
    obtain ⟨g, c, e, _, hcc⟩ := row_cells1 ow (by omega)
    refine ⟨g, c, by rw [e, hsl], ?_⟩
    rw [hcc 0 (by omega), hsegs]
    rfl)
  have HRC := Lib.hid (fun W (k : Kept [] w W) => records_any W lb pb fb bb cb 1 n v (sgs n st.D st.segs) f (h.lg.same k) (by rw [hsl]; omega) h.live.1 0 (by omega) (by rw [hs0]; exact Nat.mod_lt _ (by omega)) (fun j hj => by omega) (rs0.map recF) (recs400 hp.inv (by simp [hsegs])) (by rw [usedS_eq]; exact hrs.1) (by rw [hs0]; exact hblk))
  rw [hs0] at HRC
  have HLT : Hid (∀ x ∈ [sb, mb, kb], x < w.heap.size) := Lib.hid (by
    intro x hx
    simp at hx
    rcases hx with rfl | rfl | rfl
    · exact hc.lt
    · exact hc.ob.lt
    · exact hc.ct.lt)
  have HST : Hid (∀ x ∈ StT sb lb fb bb cb mb kb v, x < w.heap.size) := Lib.hid (by
    intro x hx
    have := h.lg.lt
    have := h.lg.n2
    have := h.lg.n3
    have := h.lg.n4
    simp only [StT, LgT, List.mem_append, Option.mem_toList] at hx
    rcases hx with hx | hx | hx
    · exact HLT.out x hx
    · simp at hx; omega
    · exact (own_lt h.lg.own x (by simpa using hx)).2)
  have hDI : (st.D : Int) ≤ 900000000 := by unfold St.num at hnum; omega
  obtain ⟨S0, hS0⟩ : ∃ S0, st.D + 1 = S0 := ⟨_, rfl⟩
  have hkI : (st.init.length : Int) ≤ 256 := by omega
  obtain ⟨K, hK⟩ : ∃ K, st.init.length = K := ⟨_, rfl⟩
  rw [hS0, hK] at HSG0
  rw [hK] at hkI
  rw [hS0] at HRC
  have HB := Lib.hid (And.intro h (And.intro hp (And.intro ht (And.intro hnum (And.intro hS0 (And.intro hsegs (And.intro hrs hrsl)))))))
  have HC := Lib.hid (fun W (k : Kept [] w W) => (hc.same k).cells)
  have hSI : (S0 : Int) ≤ 900000001 := by omega
  clear h hp ht hb hil hfree h8 hsegs hsl hs0 hrs hblk hc hct hnum hS0 hK hDI
  -- the boxes
  have hq1 := heap_new w (Obj.cells #[Ptr sb] 26)
  have hk1 := (Kept.refl [] w).alloc (Obj.cells #[Ptr sb] 26)
  obtain ⟨b1, hb1⟩ : ∃ b1, w.heap.size = b1 := ⟨_, rfl⟩
  obtain ⟨W1, hW1⟩ : ∃ W1, w.alloc (Obj.cells #[Ptr sb] 26) = W1 := ⟨_, rfl⟩
  rw [hW1, hb1] at hq1
  rw [hW1] at hk1
  have x1 := cell_at hq1 0
  simp only [List.getElem?_toArray, List.getElem?_cons_zero] at x1
  obtain ⟨t0, t1, t2, t3, t4, t5⟩ := HC.out W1 hk1
  have HW1 := Lib.hid (And.intro hq1 (And.intro hk1 hb1))
  clear hq1 hk1
  go_enter Tryz.func28, Tryz.ntmps28
  go_wp2_with (fail)
  refine (HSG.out W1 HW1.out.2.1).mono ?_
  rintro e w2 ⟨vs, rfl, own, k2⟩
  obtain ⟨gs, cs, rfl, hcell⟩ := HSG0.out w2 vs _ own
  have HW2 := Lib.hid (And.intro (k2.at HW1.out.1 (by simp)) (HW1.out.2.1.trans' k2))
  clear own k2 c0 c1 c2 c3 c4 c5 t0 t1 t2 t3 t4 t5 x1 hW1 hb1
  go_upto_region 2 with (fail)
  have hq3 := heap_new w2 (Obj.cells #[I S0] 3)
  have hk3 := (Kept.refl [] w2).alloc (Obj.cells #[I S0] 3)
  obtain ⟨W3, hW3⟩ : ∃ W3, w2.alloc (Obj.cells #[I S0] 3) = W3 := ⟨_, rfl⟩
  rw [hW3] at hq3
  rw [hW3] at hk3
  have k03 := HW2.out.2.trans' hk3
  have hq1 := hk3.at HW2.out.1 (by simp)
  have x1d : W3.drew.cell? ⟨b1, 0, none⟩ = some (Ptr sb) := by have := cell_at hq1 0; simpa using this
  have x3d : W3.drew.cell? ⟨w2.heap.size, 0, none⟩ = some (I S0) := by have := cell_at hq3 0; simpa using this
  obtain ⟨t0, t1, t2, t3, t4, t5⟩ := HC.out W3.drew k03.drew
  have HRC3 := Lib.hid (HRC.out W3.drew k03.drew)
  have HW3 := Lib.hid (And.intro hq1 (And.intro hq3 (And.intro k03 HW2.out.2.size)))
  clear hq3 hk3 k03 hq1
  go_cut [4, 5] from 18 to 26 (fun v4 v5 wx => v5 = I 0 ∧ wx.ownsRow W3.heap.size 9 1 v4 rs0.length ((rs0.map recF).map S) ∧ Kept [] W3 wx)
  case first =>
    go_region_with (first
      | (go_at_call 54; (with_reducible refine HRC3.out.mono ?_); rintro e w4 ⟨vo, rfl, own4, k4⟩; obtain ⟨po, co, rfl⟩ := own_form own4))
    all_goals
      simp only [List.getElem_toArray, List.getElem_cons_succ, List.getElem_cons_zero]
      go_frame
      go_wp2
      go_meet
      refine ⟨rfl, ?_, (Kept.refl [] W3).drew.trans' k4⟩
      have := own4
      rw [List.length_map] at this
      exact this
  case rest =>
  obtain ⟨rfl, own4, k34⟩ := hcut
  clear x1d x3d t0 t1 t2 t3 t4 t5 hW3 hcell
  obtain ⟨pr, cr, hv4⟩ := own_form own4
  subst hv4
  have k04 := HW3.out.2.2.1.trans' k34
  have HSAT : Hid (SAt wc sb lb pb fb bb cb mb kb n v st f) := Lib.hid (HB.out.1.same k04)
  have HROW : Hid (∀ W, Kept (StT sb lb fb bb cb mb kb v) wc W → W.cell? ⟨b1, 0, none⟩ = some (Ptr sb) ∧ W.cell? ⟨w2.heap.size, 0, none⟩ = some (I S0) ∧ (∀ i (hi : i < rs0.length), ∃ g, pr = some ⟨g, 0, none⟩ ∧ W.cell? ⟨g, i, none⟩ = some (S (recF rs0[i])))) := Lib.hid (by
    intro W k
    have hno : ∀ q, w.heap.size ≤ q → q ∉ StT sb lb fb bb cb mb kb v := fun q hq hm => by have := HST.out q hm; omega
    have h1 := k.at (k34.at HW3.out.1 (by simp)) (hno _ (by have := HW1.out.2.2; omega))
    have h3 := k.at (k34.at HW3.out.2.1 (by simp)) (hno _ HW3.out.2.2.2)
    refine ⟨by have := cell_at h1 0; simpa using this, by have := cell_at h3 0; simpa using this, fun i hi => ?_⟩
    obtain ⟨g, c, e, hbg, hcc⟩ := row_cells1 own4 (by omega)
    refine ⟨g, by injection e, ?_⟩
    have h5 := hcc i hi
    have h6 : ((rs0.map recF).map S)[i]? = some (S (recF rs0[i])) := by rw [List.getElem?_map, List.getElem?_map, List.getElem?_eq_getElem hi]; rfl
    rw [h6] at h5
    have hgs : w.heap.size ≤ g := by have := HW3.out.2.2.1.size; omega
    exact (k.cell (p := ⟨g, i, none⟩) (World.block_lt_of_cell? wc _ h5) (hno _ hgs)).trans h5)
  have HWC := Lib.hid (And.intro k04 (k04.size))
  have hrI : (rs0.length : Int) ≤ 7 := by omega
  have hnn : Hid (n ≤ 256 ∧ st.init.length + 2 = n ∧ sumA wO st.M ≤ 7 * (n - 4) / 2) := Lib.hid ⟨by have := HB.out.1.bound.1; omega, HB.out.2.1.free, HB.out.2.1.quota⟩
  clear own4 k34 k04
  go_wp2_with (fail)
  go_loopw [34] (fun vi wr => ∃ (i : Nat) (v' : Value) (f' : Fl), vi = I i ∧ i ≤ rs0.length ∧ SAt wr sb lb pb fb bb cb mb kb n v' (cleanI st rs0 i) f' ∧ Fresh wc v v' ∧ f'.cs = f.cs ∧ Kept (StT sb lb fb bb cb mb kb v) wc wr) (fun vi _ => rs0.length - (intOf vi).toNat)
  case atStart => exact ⟨0, v, f, rfl, by omega, HSAT.out, Fresh.refl _ _, rfl, Kept.refl _ _⟩
  case round =>
    obtain ⟨i, v', f', rfl, hi, hsat, hfr, hcs, kr⟩ := hrel
    obtain ⟨y1, y3, yr⟩ := HROW.out wr kr
    by_cases hlt : i < rs0.length
    · have hltI : (i : Int) < rs0.length := by omega
      have hi0 : (0 : Int) ≤ i := by omega
      obtain ⟨gr, rfl, er⟩ := yr i hlt
      have hri : rs0[i]? = some rs0[i] := List.getElem?_eq_getElem hlt
      obtain ⟨m1, m2, m3, m4⟩ := clean_may HB.out.2.1 HB.out.2.2.1 i rs0[i] hri
      have hfr0 : FormC rs0[i] := HB.out.2.2.2.2.2.2.1.2 _ (List.getElem_mem hlt)
      obtain ⟨R, hR⟩ : ∃ R, rs0[i] = R := ⟨_, rfl⟩
      rw [hR] at er m4 hfr0
      obtain ⟨stI, hst⟩ : ∃ x, cleanI st rs0 i = x := ⟨_, rfl⟩
      have hsucc := cleanI_succ st rs0 i R (by rw [hri, hR])
      rw [hst] at hsat m1 m2 m3 m4 hsucc
      rw [HB.out.2.2.2.2.1] at m4 hsucc
      obtain ⟨mi, Ui, hci⟩ := clean_at HB.out.2.1 HB.out.2.2.1 i (by omega)
      rw [hst] at hci
      have hwt : sumA wO stI.M ≤ 100000 := by
        rw [weight_same hci.inv.sorted HB.out.2.1.inv.sorted hci.same]
        have := hnn.out
        omega
      clear hci
      have hRl : R.length ≤ 400 := by
        have : ∀ l : List Ch, l.length ≤ (recF l).length := fun l => by
          induction l with
          | nil => simp
          | cons c l ih =>
            rw [recF_cons, List.length_append, List.length_cons]
            have := chB_len c
            split at this <;> omega
        have := this R
        have := hfr0.2.2
        omega
      have HRI := Lib.hid (And.intro hsat (And.intro hfr (And.intro hcs (And.intro kr (And.intro m1 (And.intro m2 (And.intro m3 (And.intro m4 (And.intro hsucc (And.intro hfr0 (And.intro hRl hwt)))))))))))
      clear hsat hfr hcs kr m1 m2 m3 m4 hsucc hfr0 hri hst hRl hR yr hwt
      have hq6 := heap_new wr (Obj.cells #[I i] 3)
      have hk6 := (Kept.refl [] wr).alloc (Obj.cells #[I i] 3)
      obtain ⟨b6, hb6⟩ : ∃ b6, wr.heap.size = b6 := ⟨_, rfl⟩
      obtain ⟨W6, hW6⟩ : ∃ W6, wr.alloc (Obj.cells #[I i] 3) = W6 := ⟨_, rfl⟩
      rw [hW6, hb6] at hq6
      rw [hW6] at hk6
      have HPA := Lib.hid (oparse_any R (fun c hc => ⟨(HRI.out.2.2.2.2.2.2.2.2.2.1.2.1 c hc).1, (HRI.out.2.2.2.2.2.2.2.2.2.1.2.1 c hc).2.1, (HRI.out.2.2.2.2.2.2.2.2.2.1.2.1 c hc).2.2.1, (HRI.out.2.2.2.2.2.2.2.2.2.1.2.1 c hc).2.2.2⟩) (by have := HRI.out.2.2.2.2.2.2.2.2.2.1.2.2; omega) (by have := HRI.out.2.2.2.2.2.2.2.2.2.2.1; omega) W6)
      have HW6 := Lib.hid (And.intro hq6 (And.intro hk6 hb6))
      clear hq6 hk6
      go_wp2_with (fail)
      refine HPA.out.mono ?_
      rintro e w7 ⟨pp, pc, rfl, ownP, k7⟩
      obtain ⟨hsat, hfr, hcs, kr, m1, m2, m3, m4, hsucc, hfr0, hRl, hwt⟩ := HRI.out
      have k07 : Kept [] wr w7 := HW6.out.2.1.trans' k7
      have kc7 : Kept (StT sb lb fb bb cb mb kb v) wc w7 := kr.trans' (StT.sub0 k07)
      have hb66 := k7.at HW6.out.1 (by simp)
      obtain ⟨hlt1, hlt2⟩ := stT_lt hsat
      have hgP : ∀ q, q ∈ (Value.slice pp R.length pc).ownBlock.toList → W6.heap.size ≤ q ∧ q < w7.heap.size := fun q hq => own_lt ownP q (by simpa using hq)
      have h6s := HW6.out.2.1.size
      obtain ⟨k, hkd⟩ : ∃ k, R.filter (keepC stI.M S0 i) = k := ⟨_, rfl⟩
      rw [hkd] at m4 hsucc
      have HDF := delf_any w7 R W6.heap.size pp pc ownP (by omega) (Ptr b1) (Ptr w2.heap.size) (Ptr b6) (fun x => !keepC stI.M S0 i x) (by
        intro W kW x hx
        obtain ⟨C', hc', _⟩ := hsat.core
        have hcore : CoreAt W sb pb lb mb kb (sumA wO stI.M) stI.M C' := (hc'.same k07).kept kW (fun hm => by have := (hgP _ hm).1; have := hc'.lt; omega) (fun hm => by have := (hgP _ hm).1; have := hc'.ob.lt; omega) (fun hm => by have := (hgP _ hm).1; have := hc'.ct.lt; omega)
        obtain ⟨z1, z3, _⟩ := HROW.out W (kc7.trans kW (fun q hq => .inr (by have := (hgP q hq).1; have := kr.size; omega)))
        have h6c := cell_at (kW.at hb66 (fun hm => by have := (hgP _ hm).1; have := lt_of_block HW6.out.1; omega)) 0
        have hform := hfr0.2.1 x hx
        exact keep_any W sb pb lb mb kb _ stI.M C' hcore b1 w2.heap.size b6 S0 i (by omega) (by omega) z1 z3 (by simpa using h6c) x ⟨hform.1, hform.2.1⟩)
      rw [filter_nn, hkd] at HDF
      have HDFH := Lib.hid HDF
      have HRJ := Lib.hid (And.intro m4 (And.intro hsucc (And.intro k07 (And.intro hgP (And.intro h6s (And.intro hkd (And.intro hlt1 hlt2)))))))
      have hkl : k.length ≤ 400 := by rw [← hkd]; exact Nat.le_trans (List.length_filter_le _ _) hRl
      clear HDF hsat hfr hcs kr m1 m2 m3 m4 hsucc hfr0 hRl hwt k07 kc7 hb66 hlt1 hlt2 hgP h6s hkd ownP k7 y1 y3 er hb6 hW6 HPA
      go_wp2_with (fail)
      refine HDFH.out.mono ?_
      rintro e w8 ⟨rfl, ownK, k8⟩
      obtain ⟨m4, hsucc, k07, hgP, h6s, hkd, hlt1, hlt2⟩ := HRJ.out
      obtain ⟨hsat, hfr, hcs, kr, m1, m2, m3, _, _, hfr0, hRl, hwt⟩ := HRI.out
      have hsat8 := (hsat.same k07).kept k8 (fun x hx => by
        have := (hgP x hx).1
        exact ⟨fun hm => by have := hlt1 x hm; omega, by omega⟩)
      have kc8 : Kept (StT sb lb fb bb cb mb kb v) wc w8 := (kr.trans' (StT.sub0 k07)).trans k8 (fun q hq => .inr (by have := (hgP q hq).1; have := kr.size; omega))
      obtain ⟨z1, z3, _⟩ := HROW.out w8 kc8
      have hklI : (k.length : Int) ≤ 400 := by omega
      by_cases hke : k = []
      · have hk0 : k.length = 0 := by rw [hke]; rfl
        have HE := Lib.hid (And.intro hsat8 (And.intro kc8 (And.intro hfr (And.intro hcs (hsucc.trans (if_pos hke))))))
        have hk0b : ((k.length : Int) == 0) = true := by simp [hk0]
        have hk0I : (k.length : Int) = 0 := by omega
        clear hsat8 kc8 hfr hcs hsucc m4 hke hk0 hsat kr m1 m2 m3 hfr0 hRl hwt k07 hgP h6s hkd hlt1 hlt2 ownK k8 hkl
        go_wp2_with (fail)
        go_roundw
        case rel =>
          obtain ⟨q1, q2, q3, q4, q5⟩ := HE.out
          exact ⟨i + 1, v', f', by go_num, by omega, by rw [q5]; exact q1, q3, q4, q2⟩
        case measure => simp [intOf]; omega
      · obtain ⟨hfk, hrk⟩ := m4 hke
        have hkpos := List.length_pos_iff.2 hke
        have hk0b : ((k.length : Int) == 0) = false := by simp; omega
        have hk0I : ¬ (k.length : Int) = 0 := by omega
        have hAP := oappend_any w8 sb lb pb fb bb cb mb kb n v' stI f' hsat8 k (.slice pp k.length pc) ownK.at (fun q hq => by
          have hq2 := own_lt ownK q hq
          exact ⟨hq2.2, fun hm => by have := hlt1 q hm; omega⟩) hfk (by omega) 0 (by omega) (fun hnf => by have := hrk hnf; omega) (by
            have := m1.few
            have := HB.out.2.2.2.1
            have := hnn.out
            unfold St.num at *
            omega) hwt
        have HAP := Lib.hid hAP
        have HE := Lib.hid (And.intro kc8 (And.intro hfr (And.intro hcs (And.intro (hsucc.trans (if_neg hke)) kc8.size))))
        clear hAP hsat8 kc8 hfr hcs hsucc m4 hke hsat kr m1 m2 m3 hfr0 hRl hwt k07 hgP h6s hkd hlt1 hlt2 ownK k8 hkl hfk hrk hkpos
        go_wp2_with (fail)
        refine HAP.out.mono ?_
        rintro e w9 ⟨rfl, v2, st2, f2, hfr2, hsat2, k9, rfl, hcs2⟩
        have H9 := Lib.hid (And.intro hfr2 (And.intro hsat2 (And.intro k9 hcs2)))
        clear hfr2 hsat2 k9 hcs2 z1 z3
        go_wp2_with (fail)
        go_roundw
        case rel =>
          obtain ⟨q2, q3, q4, q5, q6⟩ := HE.out
          obtain ⟨r1, r2, r3, r4⟩ := H9.out
          exact ⟨i + 1, v2, f2, by go_num, by omega, by rw [q5]; exact r2, fresh_trans q3 r1 q6, r4.trans q4, q2.trans r3 (stT_fresh q3)⟩
        case measure => simp [intOf]; omega
    · have hie : i = rs0.length := by omega
      subst hie
      obtain ⟨me, Ue, hci⟩ := clean_at HB.out.2.1 HB.out.2.2.1 rs0.length (by omega)
      have hca := clean_all HB.out.2.1 HB.out.2.2.1
      have hcleq : cleanS st = { (cleanI st rs0 rs0.length) with D := st.D + 1, init := (cleanI st rs0 rs0.length).init.tail } := by
        unfold cleanS cleanI
        rw [HB.out.2.2.1, List.take_length]
        rfl
      obtain ⟨s1, hs1⟩ : ∃ s1, cleanI st rs0 rs0.length = s1 := ⟨_, rfl⟩
      rw [hs1] at hsat hci hcleq
      obtain ⟨t1, ht1⟩ := hci.head
      have hd1 := hci.d
      have hinv1 := hci.inv
      rw [ht1] at hcleq
      have hcl2 : cleanS st = { s1 with D := s1.D + 1, init := t1 } := by rw [hcleq, hd1]; rfl
      have hsg1 : sgs n s1.D s1.segs = (s1.D % n, S0) :: sgs n (s1.D + 1) (t1 ++ [s1.last]) := by
        unfold St.segs
        rw [ht1, ← HB.out.2.2.2.2.1, ← hd1]
        rfl
      have hb1' := hsat.bound
      have hfew1 := hinv1.few
      have hn0 : 0 < n := by omega
      obtain ⟨C', hc', hct'⟩ := hsat.core
      have hcd := hc'.same (Kept.refl [] wr).drew
      have hS0k : ((S0 : Nat) : Int) = ((s1.D + 1 : Nat) : Int) := by rw [hd1, HB.out.2.2.2.2.1]
      obtain ⟨w6, hdel, hct6, kdel⟩ := hcd.ct.drop' Tryz.underlying59 (k := (S0 : Int)) ⟨by omega, by omega⟩
      have hc6 := hcd.setC kdel hct6
      have k06 : Kept [kb] wr w6 := ((Kept.refl [kb] wr).drew).trans' kdel
      have hlg6 : LgAt w6 lb pb fb bb cb 1 n v' (sgs n s1.D s1.segs) f' false := hsat.lg.beside (w0 := wr) (sb := sb) (mb := mb) (kb := kb) (v := v') (k06.mono (by simp)) (Fresh.refl _ _) hsat.sep (fun x hx => (stT_lt hsat).1 x (List.mem_append.2 (.inl hx)))
      rw [hsg1] at hlg6
      have ht1l : (sgs n (s1.D + 1) (t1 ++ [s1.last])).length ≤ 1000 := by
        have : s1.init.length = t1.length + 1 := by rw [ht1]; rfl
        rw [sgs_len]
        simp
        omega
      have HDR := Lib.hid (fun W (k : Kept [] w6 W) => dropOldest_any W lb pb fb bb cb 1 n v' (s1.D % n, S0) (sgs n (s1.D + 1) (t1 ++ [s1.last])) f' (hlg6.same k) hsat.live.1 hsat.live.2 (Nat.mod_lt _ hn0) (by rw [sgs_len]; simp) ht1l)
      obtain ⟨f2, hf2⟩ : ∃ f2 : Fl, ({ f'.stepped with bs := eraseL f'.bs (1 + s1.D % n), cs := f'.cs.set (1 + s1.D % n) (wrap64 (numAt f'.cs (1 + s1.D % n) + 1)) } : Fl) = f2 := ⟨_, rfl⟩
      simp only at HDR
      rw [hf2] at HDR
      have hfl2 : FlOK n f2 (cleanS st) := by
        rw [hcl2]
        exact fl_drop ht1 s1.M hsat.fl hfew1 hb1'.2 f2 (by rw [← hf2])
      have hct2 : CtOK (cleanS st) (delA C' (S0 : Int)) := by
        rw [hcl2, hS0k]
        exact ct_drop ht1 hct' hc'.ct.srt
      have hlive2 : f2.dead = false ∧ f2.armed = 0 := by rw [← hf2]; exact ⟨hsat.live.1, hsat.live.2⟩
      have hcs2 : f2.cs = f.cs.set (1 + st.D % n) (wrap64 (numAt f.cs (1 + st.D % n) + 1)) := by rw [← hf2, ← hcs, ← hd1]
      have hsegs2 : sgs n (cleanS st).D (cleanS st).segs = sgs n (s1.D + 1) (t1 ++ [s1.last]) := by rw [hcl2]; rfl
      have hM2 : (cleanS st).M = s1.M := by rw [hcl2]
      obtain ⟨p0, p1, p2, p3, p4, p5⟩ := hcd.cells
      have y1d : wr.drew.cell? ⟨b1, 0, none⟩ = some (Ptr sb) := y1
      have y3d : wr.drew.cell? ⟨w2.heap.size, 0, none⟩ = some (I S0) := y3
      have kc6 : Kept (StT sb lb fb bb cb mb kb v) wc w6 := kr.trans' (k06.mono (by simp [StT]))
      have HCE6 := Lib.hid (fun W (k : Kept [] w6 W) => And.intro (hc6.same k).cells (HROW.out W (kc6.trans' (StT.sub0 k))).1)
      have HEND := Lib.hid (And.intro hc6 (And.intro hfl2 (And.intro hct2 (And.intro hlive2 (And.intro hcs2 (And.intro hsegs2 (And.intro hM2 (And.intro hca.1 (And.intro hsat (And.intro hfr kc6))))))))))
      clear hci hca hcleq hs1 hd1 hinv1 hcl2 hsg1 hb1' hfew1 hn0 hc' hct' hcd hct6 kdel hc6 k06 hlg6 hf2 ht1l hfl2 hct2 hlive2 hcs2 hsegs2 hM2 y1 y3 yr kr hsat hfr hcs kc6 ht1 hS0k
      go_upto_region 15 with (fail)
      go_cut [] from 57 to 61 (fun wx => wx = w6)
      case first =>
        go_region_law (refine step_del rfl (.tmp 60) (.tmp 61) 59 3 rfl (by simp [Act.eval, Act.put]) (by simp [Act.eval, Act.put]) hdel ?_)
        all_goals
          go_wp2
          go_meet
          rfl
      case rest =>
      have hwc6 : wc = w6 := hcut
      subst hwc6
      clear p0 p1 p2 p3 p4 p5 y1d y3d
      obtain ⟨⟨p0, p1, p2, p3, p4, p5⟩, z1⟩ := HCE6.out _ (Kept.refl _ _).drew
      go_upto_region 16 with (fail)
      go_region_with (first
        | (go_at_call 58; (with_reducible refine (HDR.out _ (Kept.refl _ _).drew).mono ?_); rintro e w7 ⟨rfl, v2, hfr2, hlg2, k7⟩; have hc7 := (HEND.out.1.same (Kept.refl _ _).drew).kept k7 (sep_fresh HEND.out.2.2.2.2.2.2.2.2.2.1 HSAT.out.sep (fun x hx => Nat.lt_of_lt_of_le (HLT.out x hx) HWC.out.2) _ (by simp)).1 (sep_fresh HEND.out.2.2.2.2.2.2.2.2.2.1 HSAT.out.sep (fun x hx => Nat.lt_of_lt_of_le (HLT.out x hx) HWC.out.2) _ (by simp)).1 (sep_fresh HEND.out.2.2.2.2.2.2.2.2.2.1 HSAT.out.sep (fun x hx => Nat.lt_of_lt_of_le (HLT.out x hx) HWC.out.2) _ (by simp)).1; have z2 := (HROW.out w7 ((HEND.out.2.2.2.2.2.2.2.2.2.2.trans' (StT.sub0 (Kept.refl _ _).drew)).trans (StT.subL (sb := sb) (mb := mb) (kb := kb) k7) (stT_fresh HEND.out.2.2.2.2.2.2.2.2.2.1))).1)
        | (go_at_call 22; (with_reducible refine (stold_any _ sb pb lb mb kb _ _ _ hc7 0 rfl).mono ?_); rintro e w8 ⟨rfl, hc8, k8⟩))
      all_goals
        go_wp2
        go_ret
        obtain ⟨g1, g2, g3, g4, g5, g6, g7, g8, g9, g10, g11⟩ := HEND.out
        have hltw : ∀ x ∈ [sb, mb, kb], x < _ := fun x hx => Nat.lt_of_lt_of_le (HLT.out x hx) HWC.out.2
        have hsep2 := sep_fresh g10 HSAT.out.sep hltw
        have hsz : _ ≤ _ := g11.size
        have hlt2 : ∀ x ∈ [sb, mb, kb], x < _ := fun x hx => Nat.lt_of_lt_of_le (hltw x hx) hsz
        have hlgf := hlg2.beside (sb := sb) (mb := mb) (kb := kb) (k8.mono (by simp)) hfr2 hsep2 hlt2
        rw [← g6] at hlgf
        rw [← g7] at hc8
        exact ⟨rfl, v2, cleanS st, f2, fresh_trans (fresh_mono g10 HWC.out.2) hfr2 (Nat.le_trans HWC.out.2 hsz), ⟨hlgf, ⟨_, hc8, g3⟩, g2, g8, g4, sep_fresh hfr2 hsep2 hlt2⟩, (StT.sub0 HWC.out.1).trans' (((g11.trans' (StT.sub0 (Kept.refl _ _).drew)).trans (StT.subL (sb := sb) (mb := mb) (kb := kb) k7) (stT_fresh g10)).trans' (StT.subC (k8.mono (by simp)))), rfl, g5⟩
end
section
set_option maxHeartbeats 8000000
set_option maxRecDepth 100000
/-! ### May -/
def quotaF (n : Nat) : Nat := 7 * (n - 4) / 2
def mayF (n : Nat) (M : OM) (l : List Ch) : Int := if formF l ≠ 0 then formF l else if 400 < (recF l).length then 151 else if (quotaF n : Int) < becW M l (sumA wO M) then 152 else 0
theorem oquota_any (w : World) (sb pb lb mb kb fb bb cb n : Nat) (x : Int) (M : OM) (C : List (Int × Nat)) (h : CoreAt w sb pb lb mb kb x M C) (f : Fl) (hp : PtAt w pb fb bb cb 1 n f) (hn : 8 ≤ n) :
    Calls Tryz.prog 36 #[Ptr sb] w fun e w' => e = .returned (I (quotaF n : Nat)) ∧ w' = w := by
  obtain ⟨c0, c1, c2, c3, c4, c5⟩ := h.cells
  have HS := Lib.hid (size_any w pb fb bb cb 1 n f hp)
  have hb := hp.bound.1
  obtain ⟨N, hN⟩ : ∃ N : Nat, n * 512 = N := ⟨_, rfl⟩
  rw [hN] at HS
  have hd : (N : Int) / 512 = n := by omega
  have hN2 : (N : Int) ≤ 131072 := by omega
  have hnI : (n : Int) ≤ 256 := by omega
  have hnI8 : (8 : Int) ≤ n := by omega
  have HQ : Hid ((7 : Int) * ((n : Int) - 4) / 2 = (quotaF n : Nat)) := Lib.hid (by unfold quotaF; omega)
  have hq0 : (0 : Int) ≤ 7 * ((n : Int) - 4) := by omega
  clear h hp hb hN hn
  go_enter Tryz.func36, Tryz.ntmps36
  go_wp2_with (fail)
  refine HS.out.mono ?_
  rintro e w1 ⟨rfl, rfl⟩
  go_wp2_with (fail)
  go_ret
  exact ⟨by rw [← HQ.out]; rfl, rfl⟩
theorem recF_take_le (l : List Ch) (j : Nat) : (recF (l.take j)).length ≤ (recF l).length := recF_sub (List.take_sublist j l)
set_option maxHeartbeats 8000000 in
theorem may_any (w : World) (sb lb pb fb bb cb mb kb n : Nat) (v : Value) (st : St) (f : Fl) (h : SAt w sb lb pb fb bb cb mb kb n v st f) (hn : 8 ≤ n) (hsum : sumA wO st.M ≤ 100000) (l : List Ch) (cv : Value) (hv : ChsAt w cv l) (hl : l.length ≤ 4611686018427387904) :
    Calls Tryz.prog 21 #[Ptr sb, cv] w fun e w' => e = .returned (I (mayF n st.M l)) ∧ Kept [] w w' := by
  obtain ⟨C, hc, hct⟩ := h.core
  have HPD := Lib.hid (pdead_any w pb fb bb cb 1 n f h.lg.pt)
  rw [h.live.1] at HPD
  have HFM := Lib.hid (form_any l cv w hv hl)
  have HQU := Lib.hid (fun W (k : Kept [] w W) => oquota_any W sb pb lb mb kb fb bb cb n _ st.M C (hc.same k) f (h.lg.pt.same k) hn)
  have HBE : Hid (formF l = 0 → (recF l).length ≤ 400 → ∀ W, Kept [] w W → Calls Tryz.prog 23 #[Ptr sb, cv] W fun e w' => e = .returned (.tuple #[I (becW st.M l (sumA wO st.M)), .bool (othF st.M l)]) ∧ Kept [] W w') := Lib.hid (by
    intro hf hr W k
    have hl2 : l.length ≤ 1000 := by
      have : ∀ l : List Ch, l.length ≤ (recF l).length := fun l => by
        induction l with
        | nil => simp
        | cons c l ih =>
          rw [recF_cons, List.length_append, List.length_cons]
          have := chB_len c
          split at this <;> omega
      have := this l
      omega
    have hk := (formF_ok hf hr).2.1
    exact becomes_any W sb pb lb mb kb _ st.M C (hc.same k) l cv (hv.same k) hl2 (fun c hc => ⟨(hk c hc).1, (hk c hc).2.1, (hk c hc).2.2.1⟩) (vals_of h.inv) ⟨by omega, by omega⟩)
  have HOK : Hid (formF l = 0 → ∀ c ∈ l, c.val.length ≤ 256) := Lib.hid (fun hf c hcm => ((formG_ok 0 l hf).2 c hcm).2.2.2.1)
  obtain ⟨c0, c1, c2, c3, c4, c5⟩ := hc.cells
  obtain ⟨p, cp, b, o, rfl, hp, hcc⟩ := hv
  have HC := Lib.hid (And.intro hcc hp)
  have hlI : (l.length : Int) ≤ 4611686018427387904 := by omega
  obtain ⟨bw, hbw⟩ : ∃ bw, becW st.M l (sumA wO st.M) = bw := ⟨_, rfl⟩
  rw [hbw] at HBE
  obtain ⟨fo, hfo⟩ : ∃ fo, formF l = fo := ⟨_, rfl⟩
  have HM : Hid (mayF n st.M l = if fo ≠ 0 then fo else if 400 < (recF l).length then 151 else if (quotaF n : Int) < bw then 152 else 0) := Lib.hid (by unfold mayF; rw [hfo, hbw])
  rw [hfo] at HFM HBE HOK
  have hqn : (quotaF n : Int) ≤ 2000 := by unfold quotaF; have := h.bound.1; omega
  obtain ⟨Q, hQ⟩ : ∃ Q, quotaF n = Q := ⟨_, rfl⟩
  rw [hQ] at HM HQU hqn
  clear h hc hct hcc hp hbw hfo hQ hsum hn
  go_enter Tryz.func21, Tryz.ntmps21
  go_wp2_with (fail)
  refine HPD.out.mono ?_
  rintro e w1 ⟨rfl, hw⟩
  replace hw := hw.symm
  subst hw
  go_wp2_with (fail)
  refine HFM.out.mono ?_
  rintro e w1 ⟨rfl, k1⟩
  have K1 := Lib.hid k1
  clear k1 c0 c1 c2 c3 c4 c5
  by_cases hz : fo = 0
  case neg =>
    have hzb : (fo != 0) = true := by simpa using hz
    have hzb2 : (fo == 0) = false := by simpa using hz
    have HE := Lib.hid hz
    clear hz
    go_wp2_with (fail)
    go_ret
    exact ⟨by rw [HM.out, if_pos HE.out]; rfl, K1.out⟩
  subst hz
  have HM2 : Hid (mayF n st.M l = if 400 < (recF l).length then 151 else if (Q : Int) < bw then 152 else 0) := Lib.hid (by rw [HM.out, if_neg (by simp)])
  have hval := HOK.out (by first | rfl | trivial)
  have HVL := Lib.hid hval
  clear HM HOK hval
  go_wp2_with (fail)
  go_loopw [6, 29] (fun vn vi wr => ∃ (j N : Nat), j ≤ l.length ∧ vi = I j ∧ vn = I N ∧ N = (recF (l.take j)).length ∧ N ≤ 400 ∧ Kept [] w wr) (fun _ vi _ => l.length - (intOf vi).toNat)
  case atStart => exact ⟨0, 0, by omega, rfl, rfl, rfl, by omega, K1.out⟩
  case round =>
    obtain ⟨j, N, hj, rfl, rfl, hN, hN4, kr⟩ := hrel
    by_cases hlt : j < l.length
    · obtain ⟨hcc, hp⟩ := HC.out
      have hpe := hp (by intro h; subst h; simp at hlt)
      subst hpe
      have hltI : (j : Int) < l.length := by omega
      obtain ⟨d0, d1, d2⟩ := hcc j hlt
      have e0 := kr.cellOf d0
      have e1 := kr.cellOf d1
      have e2 := kr.cellOf d2
      have hv3 := HVL.out l[j] (List.getElem_mem hlt)
      obtain ⟨⟨ky, vl, dr⟩, hx⟩ : ∃ x, l[j] = x := ⟨_, rfl⟩
      have hnx : (recF (l.take (j + 1))).length = N + (if dr then 5 else 7 + vl.length) := by
        rw [List.take_add_one, List.getElem?_eq_getElem hlt, hx]
        show (recF (l.take j ++ [⟨ky, vl, dr⟩])).length = _
        rw [recF_snoc, List.length_append, chB_len, hN]
      rw [hx] at e0 e1 e2 hv3
      simp only at e0 e1 e2 hv3
      have hvI : (vl.length : Int) ≤ 256 := by omega
      have hNI : (N : Int) ≤ 400 := by omega
      have hle := recF_take_le l (j + 1)
      have HR := Lib.hid (And.intro hnx (And.intro (kr.alloc (Obj.cells #[I ky, S vl, .bool dr] 75)) hle))
      clear hnx kr hcc hp d0 d1 d2 hx hN hle
      cases dr with
      | true =>
        by_cases hbig : 400 < N + 5
        · have hbI : (400 : Int) < (N : Int) + 5 := by omega
          have HE : Hid (mayF n st.M l = 151) := Lib.hid (by
            rw [HM2.out, if_pos (by have h1 := HR.out.1; have h2 := HR.out.2.2; simp only [if_true] at h1; omega)])
          go_wp2_with (fail)
          go_ret
          exact ⟨by (rw [HE.out]; first | done | rfl), HR.out.2.1⟩
        · have hbI : ¬ (400 : Int) < (N : Int) + 5 := by omega
          have hbb : decide ((400 : Int) < (N : Int) + 5) = false := decide_eq_false hbI
          go_wp2_with (fail)
          go_roundw
          case rel => exact ⟨j + 1, N + 5, by omega, by go_num, by go_num, HR.out.1.symm, by omega, HR.out.2.1⟩
          case measure => simp [intOf]; omega
      | false =>
        obtain ⟨V, hV⟩ : ∃ V, vl.length = V := ⟨_, rfl⟩
        by_cases hbig : 400 < N + (7 + vl.length)
        · have hbI : (400 : Int) < (N : Int) + 5 + (2 + vl.length) := by omega
          have HE : Hid (mayF n st.M l = 151) := Lib.hid (by
            rw [HM2.out, if_pos (by have h1 := HR.out.1; have h2 := HR.out.2.2; simp only [Bool.false_eq_true, if_false] at h1; omega)])
          clear hV
          go_wp2_with (fail)
          go_ret
          exact ⟨by (rw [HE.out]; first | done | rfl), HR.out.2.1⟩
        · have hbI : ¬ (400 : Int) < (N : Int) + 5 + (2 + vl.length) := by omega
          have hbb : decide ((400 : Int) < (N : Int) + 5 + (2 + vl.length)) = false := decide_eq_false hbI
          clear hV
          go_wp2_with (fail)
          go_roundw
          case rel => exact ⟨j + 1, N + (7 + vl.length), by omega, by go_num, by go_num, HR.out.1.symm, by omega, HR.out.2.1⟩
          case measure => simp [intOf]; omega
    · have hje : j = l.length := by omega
      subst hje
      rw [List.take_length] at hN
      have HM3 : Hid (mayF n st.M l = if (Q : Int) < bw then 152 else 0) := Lib.hid (by rw [HM2.out, if_neg (by omega)])
      have HBW := Lib.hid (HBE.out (by first | rfl | trivial) (by omega) wr kr)
      have KR := Lib.hid kr
      clear hN kr HC
      go_wp2_with (fail)
      refine HBW.out.mono ?_
      rintro e w5 ⟨rfl, k5⟩
      have K5 := Lib.hid (KR.out.trans' k5)
      clear k5
      go_wp2_with (fail)
      refine (HQU.out _ K5.out).mono ?_
      rintro e w6 ⟨rfl, rfl⟩
      by_cases hq : (Q : Int) < bw
      · have HE : Hid (mayF n st.M l = 152) := Lib.hid (by rw [HM3.out, if_pos hq])
        go_wp2_with (fail)
        go_ret
        exact ⟨by (rw [HE.out]; first | done | rfl), K5.out⟩
      · have hqb : decide ((Q : Int) < bw) = false := decide_eq_false hq
        have HE : Hid (mayF n st.M l = 0) := Lib.hid (by rw [HM3.out, if_neg hq])
        go_wp2_with (fail)
        go_ret
        exact ⟨by (rw [HE.out]; first | done | rfl), K5.out⟩
/-! ### Put -/
def CsOK (n : Nat) (f : Fl) (D : Nat) : Prop := (∀ k, k < n → numAt f.cs (1 + k) = ((D + n - 1 - k) / n : Nat)) ∧ numAt f.cs 0 = 0 ∧ f.cs.length = n + 1
theorem div_step {n D k : Nat} (hk : k < n) : (D + 1 + n - 1 - k) / n = (D + n - 1 - k) / n + (if k = D % n then 1 else 0) := by
  have hn : 0 < n := by omega
  have hD := Nat.div_add_mod D n
  have hm := Nat.mod_lt D hn
  obtain ⟨q, hq⟩ : ∃ q, D / n = q := ⟨_, rfl⟩
  obtain ⟨r, hr⟩ : ∃ r, D % n = r := ⟨_, rfl⟩
  rw [hq, hr] at hD
  rw [hr] at hm ⊢
  have e1 : D + 1 + n - 1 - k = n * q + (r + n - k) := by omega
  have e2 : D + n - 1 - k = n * q + (r + n - 1 - k) := by omega
  rw [e1, e2, Nat.mul_add_div hn, Nat.mul_add_div hn]
  by_cases h1 : k = r
  · rw [if_pos h1]
    have a1 : (r + n - k) / n = 1 := by rw [show r + n - k = n by omega, Nat.div_self hn]
    have a2 : (r + n - 1 - k) / n = 0 := Nat.div_eq_of_lt (by omega)
    omega
  · rw [if_neg h1]
    by_cases h2 : k < r
    · have a1 : (r + n - k) / n = 1 := by rw [show r + n - k = n + (r - k) by omega, Nat.add_div_left _ hn, Nat.div_eq_of_lt (by omega)]
      have a2 : (r + n - 1 - k) / n = 1 := by rw [show r + n - 1 - k = n + (r - 1 - k) by omega, Nat.add_div_left _ hn, Nat.div_eq_of_lt (by omega)]
      omega
    · have a1 : (r + n - k) / n = 0 := Nat.div_eq_of_lt (by omega)
      have a2 : (r + n - 1 - k) / n = 0 := Nat.div_eq_of_lt (by omega)
      omega
theorem numAt_set (l : List Int) (i j : Nat) (x : Int) (hi : i < l.length) : numAt (l.set i x) j = if j = i then x else numAt l j := by
  unfold numAt
  rw [List.getD_eq_getElem?_getD, List.getD_eq_getElem?_getD]
  by_cases h : j = i
  · subst h; rw [if_pos rfl, List.getElem?_set_self hi]; rfl
  · rw [if_neg h, List.getElem?_set_ne (Ne.symm h)]
theorem cs_step {n D : Nat} {f f' : Fl} (h : CsOK n f D) (hn : 0 < n) (hD : D ≤ 900000000) (e : f'.cs = f.cs.set (1 + D % n) (wrap64 (numAt f.cs (1 + D % n) + 1))) : CsOK n f' (D + 1) := by
  obtain ⟨h1, h2, h3⟩ := h
  have hm := Nat.mod_lt D hn
  refine ⟨fun k hk => ?_, ?_, by rw [e, List.length_set]; exact h3⟩
  · rw [e, numAt_set _ _ _ _ (by omega), div_step hk]
    by_cases hkd : k = D % n
    · rw [if_pos (by omega), if_pos hkd, ← hkd, h1 k hk]
      have : (D + n - 1 - k) / n ≤ D + n := Nat.le_trans (Nat.div_le_self _ _) (by omega)
      have hlt : (D + n - 1 - k) / n ≤ D + 1 := by
        have := Nat.div_add_mod (D + n - 1 - k) n
        have h5 : (D + n - 1 - k) / n ≤ (D + n) / n := Nat.div_le_div_right (by omega)
        rw [Nat.add_div_right _ hn] at h5
        have := Nat.div_le_self D n
        omega
      obtain ⟨qq, hqq⟩ : ∃ qq, (D + n - 1 - k) / n = qq := ⟨_, rfl⟩
      rw [hqq] at hlt ⊢
      unfold wrap64
      omega
    · rw [if_neg (by omega), if_neg hkd, h1 k hk]; simp
  · rw [e, numAt_set _ _ _ _ (by omega), if_neg (by omega)]; exact h2
/-- A store that calls may go on. -/
structure GoodS (n : Nat) (st : St) (f : Fl) : Prop where
  eight : 8 ≤ n
  free : st.init.length + 2 ≤ n
  quota : sumA wO st.M ≤ quotaF n
  cs : CsOK n f st.D
def PutPost (sb lb pb fb bb cb mb kb n : Nat) (v : Value) (w : World) (st : St) (l : List Ch) (e : Ending) (w' : World) : Prop :=
  e = .returned (I (mayF n st.M l)) ∧ ∃ v' st' f', Fresh w v v' ∧ SAt w' sb lb pb fb bb cb mb kb n v' st' f' ∧ Kept (StT sb lb fb bb cb mb kb v) w w' ∧ GoodS n st' f' ∧ st'.D ≤ st.D + n ∧ ∀ k, valM st'.M k = if mayF n st.M l = 0 then valM (takesF st.M l 0 0) k else valM st.M k
theorem sroom_any (w : World) (sb lb pb fb bb cb mb kb n : Nat) (v : Value) (st : St) (f : Fl) (h : SAt w sb lb pb fb bb cb mb kb n v st f) : Calls Tryz.prog 26 #[Ptr lb] w fun e w' => e = .returned (I (7 - usedS st.last : Nat)) ∧ Kept [] w w' := by
  have hinv := h.inv
  have hfew := hinv.few
  have hb := h.bound.1
  have hlg := h.lg
  have hseg0 : sgs n st.D st.segs = sgs n st.D st.init ++ [((st.D + st.init.length) % n, st.num)] := by
    unfold St.segs; rw [sgs_snoc]; rfl
  rw [hseg0] at hlg
  have := room_any w lb pb fb bb cb 1 n v _ _ _ f false hlg (by rw [sgs_len]; omega) h.live.1 (Nat.mod_lt _ (by omega))
  rw [h.fl st.init.length (by omega), segs_last] at this
  simp only at this
  rw [seg_room _ _ (recs400 hinv (by simp [St.segs])) (by rw [usedS_eq]; exact (hinv.recs st.last (by simp [St.segs])).1), usedS_eq] at this
  exact this
theorem sfree_any (w : World) (sb lb pb fb bb cb mb kb n : Nat) (v : Value) (st : St) (f : Fl) (h : SAt w sb lb pb fb bb cb mb kb n v st f) : Calls Tryz.prog 27 #[Ptr lb] w fun e w' => e = .returned (I ((n : Int) - (st.init.length + 1 : Nat))) ∧ Kept [] w w' := by
  have hfew := h.inv.few
  have hb := h.bound.1
  have hl : (sgs n st.D st.segs).length = st.init.length + 1 := by rw [sgs_len, segs_len]
  have := free_any w lb pb fb bb cb 1 n v _ f false h.lg (by rw [hl]; omega)
  rw [hl] at this
  exact this
theorem formG_three (last : Int) (l : List Ch) : formG last l = 0 ∨ formG last l = 1 ∨ formG last l = 151 := by
  induction l generalizing last with
  | nil => exact .inl rfl
  | cons c t ih =>
    unfold formG
    split
    · exact .inr (.inr rfl)
    · split
      · exact .inr (.inl rfl)
      · exact ih c.key
theorem may_dead (n : Nat) (M : OM) (l : List Ch) : (mayF n M l == 2) = false := by
  unfold mayF
  split
  · rcases formG_three 0 l with h1 | h1 | h1 <;> simp [formF, h1]
  · split
    · rfl
    · split <;> rfl
set_option maxHeartbeats 8000000 in
theorem put_done {n : Nat} {st st' : St} {l : List Ch} {s a : Nat} (hI : InvS n st) (hI' : InvS n st') (hsame : ∀ k, valM st'.M k = valM st.M k) (hm : mayF n st.M l = 0) :
    sumA wO (takesF st'.M l s a) ≤ quotaF n ∧ ∀ k, valM (takesF st'.M l s a) k = valM (takesF st.M l 0 0) k := by
  have hf : formF l = 0 := by
    unfold mayF at hm
    split at hm
    · next h => exact absurd hm h
    · next h => simpa using h
  have hm2 : (recF l).length ≤ 400 ∧ becW st.M l (sumA wO st.M) ≤ quotaF n := by
    unfold mayF at hm
    rw [if_neg (by rw [hf]; simp)] at hm
    split at hm
    · cases hm
    · split at hm
      · cases hm
      · omega
  have hr := (formF_ok hf hm2.1).1
  have hv : ∀ k, valM (takesF st'.M l s a) k = valM (takesF st.M l 0 0) k := fun k => takes_val hI'.sorted hI.sorted hsame l hr s a 0 0 k
  refine ⟨?_, hv⟩
  have e1 := weight_same (takes_sorted s a l hI'.sorted) (takes_sorted 0 0 l hI.sorted) hv
  have e2 := becW_takes st.M 0 0 l hr st.M hI.sorted (fun _ _ => rfl)
  omega
set_option maxHeartbeats 8000000 in
theorem oput_any (w : World) (sb lb pb fb bb cb mb kb n : Nat) (v : Value) (st : St) (f : Fl) (h : SAt w sb lb pb fb bb cb mb kb n v st f) (hg : GoodS n st f) (hD : st.D ≤ 800000000) (l : List Ch) (cv : Value) (hv : ChsAt w cv l) (hvq : l ≠ [] → ∀ q, cv.ownBlock = some q → q < w.heap.size ∧ q ∉ StT sb lb fb bb cb mb kb v) (hl : l.length ≤ 4611686018427387904) :
    Calls Tryz.prog 7 #[Ptr sb, cv] w (PutPost sb lb pb fb bb cb mb kb n v w st l) := by
  have hb := h.bound.1
  have hq2 : quotaF n ≤ 2000 := by unfold quotaF; omega
  have hsum : sumA wO st.M ≤ 100000 := by have := hg.quota; omega
  have HMAY := Lib.hid (may_any w sb lb pb fb bb cb mb kb n v st f h hg.eight hsum l cv hv hl)
  obtain ⟨C, hc, hct⟩ := h.core
  have HTO := Lib.hid (fun W (k : Kept [] w W) e (he : (e == 2) = false) => stold_any W sb pb lb mb kb _ st.M C (hc.same k) e he)
  have hmv := may_dead n st.M l
  have hcl := hc.cells
  have HB := Lib.hid (And.intro h (And.intro hg (And.intro hD (And.intro hv (And.intro hvq (And.intro hb (And.intro hq2 hsum)))))))
  have HCC := Lib.hid (And.intro hc hct)
  have HLT : Hid (∀ x ∈ [sb, mb, kb], x < w.heap.size) := Lib.hid (fun x hx => (stT_lt h).1 x (List.mem_append.2 (.inl hx)))
  obtain ⟨mv, hmvE⟩ : ∃ mv, mayF n st.M l = mv := ⟨_, rfl⟩
  have HMV := Lib.hid hmvE
  rw [hmvE] at HMAY hmv
  have HTM := Lib.hid (fun W (k : Kept [] w W) => HTO.out W k mv hmv)
  clear h hg hD hv hvq hb hq2 hsum hc hct hcl hmvE hmv HTO
  go_enter Tryz.func7, Tryz.ntmps7
  go_wp2_with (fail)
  refine HMAY.out.mono ?_
  rintro e w1 ⟨rfl, k1⟩
  have K1 := Lib.hid k1
  clear k1
  by_cases hz : mv = 0
  case neg =>
    have hzb : (mv != 0) = true := by simpa using hz
    have hzb2 : (mv == 0) = false := by simpa using hz
    have HE := Lib.hid hz
    clear hz
    go_wp2_with (fail)
    refine (HTM.out w1 K1.out).mono ?_
    rintro e w2 ⟨rfl, hc2, k2⟩
    have H2 := Lib.hid (And.intro hc2 k2)
    clear hc2 k2
    go_wp2_with (fail)
    go_ret
    obtain ⟨h, hg, hD, hv, hvq, hb, hq2, hsum⟩ := HB.out
    have hlg := (h.lg.same K1.out).beside (w0 := w1) (sb := sb) (mb := mb) (kb := kb) (v := v) (H2.out.2.mono (by simp)) (Fresh.refl _ _) h.sep (fun x hx => Nat.lt_of_lt_of_le (HLT.out x hx) K1.out.size)
    refine ⟨by rw [HMV.out]; rfl, v, st, f, Fresh.refl _ _, ⟨hlg, ⟨C, H2.out.1, HCC.out.2⟩, h.fl, h.inv, h.live, h.sep⟩, (StT.sub0 K1.out).trans' (StT.subC (H2.out.2.mono (by simp))), hg, by omega, fun k => ?_⟩
    rw [if_neg (by rw [HMV.out]; exact HE.out)]
  subst hz
  have hm0 := HMV.out
  have hff : formF l = 0 := by
    unfold mayF at hm0
    split at hm0
    · next h => exact absurd hm0 h
    · next h => simpa using h
  have hrl : (recF l).length ≤ 400 := by
    have hm0 := HMV.out
    unfold mayF at hm0
    rw [if_neg (by rw [hff]; simp)] at hm0
    split at hm0
    · cases hm0
    · omega
  have hform := formF_ok hff hrl
  have hl2 : l.length ≤ 400 := by
    have : ∀ l : List Ch, l.length ≤ (recF l).length := fun l => by
      induction l with
      | nil => simp
      | cons c l ih =>
        rw [recF_cons, List.length_append, List.length_cons]
        have := chB_len c
        split at this <;> omega
    have := this l
    omega
  have hk3 : ∀ c ∈ l, 1 ≤ c.key ∧ c.key ≤ 2147483647 ∧ c.val.length ≤ 256 := fun c hc => ⟨(hform.2.1 c hc).1, (hform.2.1 c hc).2.1, (hform.2.1 c hc).2.2.1⟩
  have HBE := Lib.hid (becomes_any w1 sb pb lb mb kb _ st.M C (HCC.out.1.same K1.out) l cv (HB.out.2.2.2.1.same K1.out) (by omega) hk3 (vals_of HB.out.1.inv) ⟨by omega, by have := HB.out.2.2.2.2.2.2.2; omega⟩)
  have HFO := Lib.hid (And.intro hform (And.intro hl2 (And.intro hk3 hm0)))
  obtain ⟨ot, hot⟩ : ∃ ot, othF st.M l = ot := ⟨_, rfl⟩
  obtain ⟨bw, hbw⟩ : ∃ bw, becW st.M l (sumA wO st.M) = bw := ⟨_, rfl⟩
  rw [hot, hbw] at HBE
  have HOT := Lib.hid hot
  clear hm0 hff hrl hform hl2 hk3 hot hbw HTM HMAY
  go_wp2_with (fail)
  refine HBE.out.mono ?_
  rintro e w2 ⟨rfl, k2⟩
  have K2 := Lib.hid (K1.out.trans' k2)
  clear k2
  cases ot with
  | false =>
    go_wp2_with (fail)
    go_ret
    obtain ⟨h, hg, hD, hv, hvq, hb, hq2, hsum⟩ := HB.out
    refine ⟨by rw [HMV.out]; rfl, v, st, f, Fresh.refl _ _, h.same K2.out, StT.sub0 K2.out, hg, by omega, fun k => ?_⟩
    rw [if_pos HMV.out]
    exact (oth_same st.M h.inv.sorted 0 0 l HFO.out.1.1 HOT.out k).symm
  | true =>
    have HRE := Lib.hid (orecord_any l cv w2 (HB.out.2.2.2.1.same K2.out) (by have := HFO.out.2.1; omega) HFO.out.2.2.1)
    have HPG := Lib.hid (fun W => pages_any (recF l).length HFO.out.1.2.2 W)
    obtain ⟨pg, hpg⟩ : ∃ pg, pagesF (recF l).length = pg := ⟨_, rfl⟩
    rw [hpg] at HPG
    have hpg7 : pg ≤ 7 ∧ 1 ≤ pg := by rw [← hpg]; exact ⟨pgs_le7 HFO.out.1, pages_pos _⟩
    have HPE := Lib.hid hpg
    have hpgI : (pg : Int) ≤ 7 := by omega
    have hrlI : ((recF l).length : Int) ≤ 400 := by have := HFO.out.1.2.2; omega
    obtain ⟨RL, hRL⟩ : ∃ RL, recF l = RL := ⟨_, rfl⟩
    rw [hRL] at HRE HPG hrlI
    clear hpg hRL
    go_wp2_with (fail)
    refine HRE.out.mono ?_
    rintro e w3 ⟨rfl, k3⟩
    have K3 := Lib.hid (K2.out.trans' k3)
    clear k3
    go_wp2_with (fail)
    refine (HPG.out _).mono ?_
    rintro e w4 ⟨rfl, hw⟩
    replace hw := hw.symm
    subst hw
    go_wp2_with (fail)
    go_loopg [9] n (fun k _ wr => ∃ (v' : Value) (st' : St) (f' : Fl), SAt wr sb lb pb fb bb cb mb kb n v' st' f' ∧ Fresh w3 v v' ∧ Kept (StT sb lb fb bb cb mb kb v) w3 wr ∧ CsOK n f' st'.D ∧ st'.D + k ≤ st.D + n ∧ (∀ j, valM st'.M j = valM st.M j) ∧ (st'.init.length + 3 ≤ n ∨ ∃ m U, CleanPre n st' m U ∧ m + k = n ∧ m ≤ n - 4))
    case atStart =>
      obtain ⟨h, hg, hD, hv, hvq, hb, hq2, hsum⟩ := HB.out
      refine ⟨v, st, f, h.same K3.out, Fresh.refl _ _, Kept.refl _ _, hg.cs, Nat.le_refl _, fun _ => rfl, ?_⟩
      have := hg.free
      by_cases h3 : st.init.length + 3 ≤ n
      · exact .inl h3
      · exact .inr ⟨0, 0, ⟨h.inv, hg.eight, by omega, ⟨by omega, by omega, fun _ => rfl, fun hh => by omega⟩, hg.quota⟩, by omega, by omega⟩
    case round =>
      obtain ⟨v', st', f', hs, hfr, kr, hcs, hDk, hval, hcase⟩ := hrel
      obtain ⟨C', hc', _⟩ := hs.core
      obtain ⟨t0, t1, t2, t3, t4, t5⟩ := hc'.cells
      have HRM := Lib.hid (fun W (k : Kept [] wr W) => sroom_any W sb lb pb fb bb cb mb kb n v' st' f' (hs.same k))
      have HFR := Lib.hid (fun W (k : Kept [] wr W) => sfree_any W sb lb pb fb bb cb mb kb n v' st' f' (hs.same k))
      have HCE := Lib.hid (fun W (k : Kept [] wr W) => (hc'.same k).cells)
      have hul := (hs.inv.recs st'.last (by simp [St.segs])).1
      obtain ⟨rm, hrm⟩ : ∃ rm, 7 - usedS st'.last = rm := ⟨_, rfl⟩
      rw [hrm] at HRM
      obtain ⟨il, hil⟩ : ∃ il, st'.init.length = il := ⟨_, rfl⟩
      rw [hil] at HFR hcase
      have hrmI : (rm : Int) ≤ 7 := by omega
      have hfew := hs.inv.few
      rw [hil] at hfew
      have hnb := hs.bound.1
      have hnI : (n : Int) ≤ 256 := by omega
      have hilI : (il : Int) + 1 ≤ n := by omega
      have HX := Lib.hid (And.intro hs (And.intro hfr (And.intro kr (And.intro hcs (And.intro hDk (And.intro hval (And.intro hcase (And.intro hrm (And.intro hil hul)))))))))
      clear hs hfr kr hcs hDk hval hcase hc' hrm hil hul hfew hnb
      go_wp2_with (fail)
      refine (HRM.out wr (Kept.refl _ _)).mono ?_
      rintro e w5 ⟨rfl, k5⟩
      obtain ⟨p0, p1, p2, p3, p4, p5⟩ := HCE.out w5 k5
      have K5 := Lib.hid k5
      clear k5 t0 t1 t2 t3 t4 t5
      have HAPX : Hid (∀ W, Kept [] wr W → (¬ fitsS st' l → il + 3 ≤ n) → Calls Tryz.prog 29 #[Ptr sb, cv, I 1] W fun e w' => e = .returned (I 0) ∧ PutPost sb lb pb fb bb cb mb kb n v w st l (.returned (I 0)) w') := Lib.hid (by
        intro W kW hfr3
        obtain ⟨hs, hfr, kr, hcs, hDk, hval, hcase, hrm, hil, hul⟩ := HX.out
        obtain ⟨h, hg, hD, hv, hvq, hb, hq2, hsum⟩ := HB.out
        have hvq := hvq (fun h0 => by have := HOT.out; rw [h0] at this; simp [othF] at this)
        have kall : Kept (StT sb lb fb bb cb mb kb v) w W := (StT.sub0 K3.out).trans' (kr.trans' (StT.sub0 kW))
        have hws : sumA wO st'.M ≤ 100000 := by rw [weight_same hs.inv.sorted h.inv.sorted hval]; exact hsum
        have hAP := oappend_any W sb lb pb fb bb cb mb kb n v' st' f' (hs.same kW) l cv (hv.kept kall (fun q hq => (hvq q hq).2)) (fun q hq => by
          have hq1 := hvq q hq
          refine ⟨Nat.lt_of_lt_of_le hq1.1 kall.size, fun hm => ?_⟩
          rcases stT_fresh hfr q hm with h1 | h1
          · exact hq1.2 h1
          · have := K3.out.size; omega) HFO.out.1 (by have := HFO.out.2.1; omega) 1 (by omega) (fun hnf => by have := hfr3 hnf; omega) (by have := hs.inv.few; unfold St.num; omega) hws
        refine hAP.mono ?_
        rintro e w' ⟨rfl, v2, st2, f2, hfr2, hs2, k2, rfl, hcs2⟩
        refine ⟨rfl, by rw [HMV.out], v2, appS st' l, f2, fresh_trans (fresh_mono hfr K3.out.size) hfr2 kall.size, hs2, kall.trans k2 (fun x hx => by
          rcases stT_fresh hfr x hx with h1 | h1
          · exact .inl h1
          · exact .inr (Nat.le_trans K3.out.size h1)), ?_, ?_, ?_⟩
        · refine ⟨hg.eight, ?_, ?_, ?_⟩
          · by_cases hf : fitsS st' l
            · rw [appS_fit hf]
              show st'.init.length + 2 ≤ n
              rcases hcase with hc3 | ⟨m, U, hcp, _⟩
              · omega
              · have := hcp.free; omega
            · rw [appS_new hf]
              have := hfr3 hf
              simp; omega
          · rw [appS_M]; exact (put_done h.inv hs.inv hval HMV.out).1
          · rw [appS_D]
            obtain ⟨q1, q2, q3⟩ := hcs
            exact ⟨by rw [hcs2]; exact q1, by rw [hcs2]; exact q2, by rw [hcs2]; exact q3⟩
        · rw [appS_D]; omega
        · intro k
          rw [if_pos HMV.out, appS_M]
          exact (put_done h.inv hs.inv hval HMV.out).2 k)
      by_cases hfit : pg ≤ rm
      · have hlt : ¬ (rm : Int) < pg := by omega
        have hltb : decide ((rm : Int) < pg) = false := decide_eq_false hlt
        have HAP := Lib.hid (HAPX.out w5 K5.out (fun hnf => absurd (show usedS st'.last + pgs l ≤ 7 by
          have h1 : pgs l = pg := HPE.out
          have := HX.out.2.2.2.2.2.2.2.1
          have := HX.out.2.2.2.2.2.2.2.2.2
          omega) hnf))
        clear HAPX hfit p0 p1 p2 p3 p4 p5
        go_wp2_with (fail)
        refine HAP.out.mono ?_
        rintro e w6 ⟨rfl, hP⟩
        have HP := Lib.hid hP
        clear hP
        go_wp2_with (fail)
        go_ret
        exact HP.out
      · have hlt : (rm : Int) < pg := by omega
        have hltb : decide ((rm : Int) < pg) = true := decide_eq_true hlt
        go_wp2_with (fail)
        refine (HFR.out w5 K5.out).mono ?_
        rintro e w6 ⟨rfl, k6⟩
        have K6 := Lib.hid (K5.out.trans' k6)
        clear k6 p0 p1 p2 p3 p4 p5
        by_cases hfree : il + 3 ≤ n
        · have HAP := Lib.hid (HAPX.out w6 K6.out (fun _ => hfree))
          have hfr2 : ¬ (n : Int) - (il + 1) < 2 := by omega
          have hfr2b : decide ((n : Int) - ((il : Int) + 1) < 2) = false := decide_eq_false hfr2
          clear HAPX hfit hfree
          go_wp2_with (fail)
          refine HAP.out.mono ?_
          rintro e w7 ⟨rfl, hP⟩
          have HP := Lib.hid hP
          clear hP
          go_wp2_with (fail)
          go_ret
          exact HP.out
        · obtain ⟨m, U, hcp, hmk, hm4⟩ := HX.out.2.2.2.2.2.2.1.resolve_left hfree
          have hCL := Lib.hid (cleans_any w6 sb lb pb fb bb cb mb kb n v' st' f' (HX.out.1.same K6.out) m U hcp (by
            have := HX.out.2.2.2.2.1
            have := HB.out.2.2.1
            have := hcp.free
            have := HB.out.2.2.2.2.2.1
            unfold St.num
            omega))
          have h8 := hcp.eight
          have hfr2 : (n : Int) - (il + 1) < 2 := by have := hcp.free; have := HX.out.2.2.2.2.2.2.2.2.1; omega
          have hfr2b : decide ((n : Int) - ((il : Int) + 1) < 2) = true := decide_eq_true hfr2
          have HCP := Lib.hid (And.intro hcp (And.intro hmk hm4))
          clear hcp hmk hm4 hfree
          go_wp2_with (fail)
          refine hCL.out.mono ?_
          rintro e w7 ⟨rfl, v2, st2, f2, hfr7, hs7, k7, rfl, hcs7⟩
          have H7 := Lib.hid (And.intro hfr7 (And.intro hs7 (And.intro k7 hcs7)))
          clear hfr7 hs7 k7 hcs7
          go_wp2_with (fail)
          go_roundg (gk - 1)
          case rel =>
            obtain ⟨hs, hfr, kr, hcs, hDk, hval, hcase, hrm, hil, hul⟩ := HX.out
            obtain ⟨hfr7, hs7, k7, hcs7⟩ := H7.out
            obtain ⟨hcp, hmk, hm4⟩ := HCP.out
            obtain ⟨rs0, t, ht⟩ : ∃ rs0 t, st'.init = rs0 :: t := by
              cases hi : st'.init with
              | nil => have := hcp.free; rw [hi] at this; simp at this; omega
              | cons a b => exact ⟨a, b, rfl⟩
            obtain ⟨a1, a2, a3, a4, a5⟩ := clean_all hcp ht
            have kr6 := kr.trans' (StT.sub0 K6.out)
            refine ⟨v2, cleanS st', f2, hs7, fresh_trans hfr hfr7 kr6.size, kr6.trans k7 (stT_fresh hfr), ?_, by omega, fun j => (a4 j).trans (hval j), ?_⟩
            · rw [a2]
              exact cs_step hcs (by omega) (by have := HB.out.2.2.1; have := HB.out.2.2.2.2.2.1; omega) hcs7
            · rcases a5 with a5 | ⟨U', a5, a6⟩
              · exact .inl a5
              · exact .inr ⟨m + 1, U', a5, by omega, a6⟩
          case measure =>
            obtain ⟨hcp, hmk, hm4⟩ := HCP.out
            omega
end

end Go.Proofs.YtncdfaocemfgfaaGreat
