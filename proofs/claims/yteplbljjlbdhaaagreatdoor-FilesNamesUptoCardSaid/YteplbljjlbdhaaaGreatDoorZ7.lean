/- Walks and lemmas on the program of this seat, used by its statements; each theorem bears its own conditions. -/
import Derived.Test.YteplbljjlbdhaaaGreatDoorZ6
import Derived.Maps.OwnSet
import Derived.Maps.Range
namespace Go.Proofs.YteplbljjlbdhaaaGreatDoor
open Go.RowKit
set_option linter.unusedVariables false
set_option linter.unusedSimpArgs false
set_option linter.unusedSectionVars false
set_option maxHeartbeats 16000000
set_option maxRecDepth 100000
section
variable {α β : Type}
def findA : List (Int × α) → Int → Option α
 | [], _ => none
 | p :: t, k => if p.1 = k then some p.2 else findA t k
def delA : List (Int × α) → Int → List (Int × α)
 | [], _ => []
 | p :: t, k => if p.1 = k then t else p :: delA t k
def insA : List (Int × α) → Int → α → List (Int × α)
 | [], k, o => [(k, o)]
 | p :: t, k, o => if k < p.1 then (k, o) :: p :: t else p :: insA t k o
def sumA (φ : α → Nat) : List (Int × α) → Nat
 | [] => 0
 | p :: t => φ p.2 + sumA φ t
def SortedA (M : List (Int × α)) : Prop := M.Pairwise (fun a b => a.1 < b.1)
def mapA (f : α → β) (M : List (Int × α)) : List (Int × β) := M.map fun p => (p.1, f p.2)
theorem find_lt {M : List (Int × α)} {k : Int} (h : ∀ p ∈ M, k < p.1) : findA M k = none := by
 induction M with
 | nil => rfl
 | cons p t ih =>
  have h1 := h p (by simp)
  unfold findA
  rw [if_neg (by omega)]
  exact ih (fun q hq => h q (by simp [hq]))
theorem find_mem {M : List (Int × α)} {k : Int} {o : α} (h : findA M k = some o) : (k, o) ∈ M := by
 induction M with
 | nil => cases h
 | cons p t ih =>
  unfold findA at h
  split at h
  ·next he => cases h; subst he; simp
  ·exact List.mem_cons_of_mem _ (ih h)
theorem find_of_mem {M : List (Int × α)} (hs : SortedA M) {k : Int} {o : α} (h : (k, o) ∈ M) : findA M k = some o := by
 induction M with
 | nil => cases h
 | cons p t ih =>
  obtain ⟨h1, h2⟩ := List.pairwise_cons.1 hs
  rcases List.mem_cons.1 h with rfl | h
  ·simp [findA]
  ·have := h1 _ h
   unfold findA
   rw [if_neg (by simp at this; omega)]
   exact ih h2 h
theorem sum_ins (φ : α → Nat) (k : Int) (o : α) : ∀ M : List (Int × α), sumA φ (insA M k o) = sumA φ M + φ o
 | [] => by simp [insA, sumA]
 | p :: t => by
  unfold insA
  split
  ·simp only [sumA]; omega
  ·simp only [sumA, sum_ins φ k o t]; omega
theorem sum_del (φ : α → Nat) (k : Int) : ∀ M : List (Int × α), sumA φ (delA M k) + ((findA M k).map φ).getD 0 = sumA φ M
 | [] => rfl
 | p :: t => by
  have := sum_del φ k t
  unfold delA findA
  split
  ·simp only [sumA, Option.map_some, Option.getD_some]; omega
  ·simp only [sumA]; omega
theorem sum_le {φ ψ : α → Nat} (h : ∀ o, φ o ≤ ψ o) : ∀ M : List (Int × α), sumA φ M ≤ sumA ψ M
 | [] => Nat.le_refl _
 | p :: t => by have := sum_le h t; have := h p.2; simp only [sumA]; omega
theorem del_sub (k : Int) : ∀ M : List (Int × α), (delA M k).Sublist M
 | [] => List.Sublist.refl _
 | p :: t => by
  unfold delA
  split
  ·exact List.sublist_cons_self _ _
  ·exact (del_sub k t).cons_cons _
theorem sorted_del {M : List (Int × α)} (h : SortedA M) (k : Int) : SortedA (delA M k) := List.Pairwise.sublist (del_sub k M) h
theorem mem_ins (k : Int) (o : α) (q : Int × α) : ∀ M : List (Int × α), q ∈ insA M k o → q = (k, o) ∨ q ∈ M
 | [], h => by simpa [insA] using h
 | p :: t, h => by
  unfold insA at h
  split at h
  ·simpa using h
  ·rcases List.mem_cons.1 h with rfl | h
   ·simp
   ·rcases mem_ins k o q t h with h | h
    ·exact .inl h
    ·exact .inr (by simp [h])
theorem sorted_ins {M : List (Int × α)} (h : SortedA M) (k : Int) (o : α) (hn : findA M k = none) : SortedA (insA M k o) := by
 induction M with
 | nil => simp [insA, SortedA]
 | cons p t ih =>
  obtain ⟨h1, h2⟩ := List.pairwise_cons.1 h
  unfold findA at hn
  split at hn
  ·cases hn
  ·next hne =>
   unfold insA
   split
   ·next hlt =>
    refine List.pairwise_cons.2 ⟨fun q hq => ?_, h⟩
    rcases List.mem_cons.1 hq with rfl | hq
    ·exact hlt
    ·have := h1 q hq
     show k < q.1
     omega
   ·next hge =>
    refine List.pairwise_cons.2 ⟨fun q hq => ?_, ih h2 hn⟩
    rcases mem_ins k o q t hq with rfl | hq
    ·show p.1 < k
     omega
    ·exact h1 q hq
theorem find_del {M : List (Int × α)} (h : SortedA M) (k j : Int) : findA (delA M k) j = if j = k then none else findA M j := by
 induction M with
 | nil => simp [delA, findA]
 | cons p t ih =>
  obtain ⟨h1, h2⟩ := List.pairwise_cons.1 h
  unfold delA
  by_cases hp : p.1 = k
  ·rw [if_pos hp]
   by_cases hj : j = k
   ·rw [if_pos hj]
    exact find_lt fun q hq => by have := h1 q hq; omega
   ·rw [if_neg hj]
    show _ = if p.1 = j then some p.2 else findA t j
    rw [if_neg (by omega)]
  ·rw [if_neg hp]
   show (if p.1 = j then some p.2 else findA (delA t k) j) = if j = k then none else if p.1 = j then some p.2 else findA t j
   rw [ih h2]
   by_cases hj : j = k
   ·rw [if_pos hj, if_pos hj, if_neg (by omega)]
   ·rw [if_neg hj, if_neg hj]
theorem find_ins {M : List (Int × α)} (k : Int) (o : α) (j : Int) (hn : findA M k = none) : findA (insA M k o) j = if j = k then some o else findA M j := by
 induction M with
 | nil =>
  simp only [insA, findA]
  by_cases hj : j = k
  ·rw [if_pos hj, if_pos hj.symm]
  ·rw [if_neg hj, if_neg (by omega)]
 | cons p t ih =>
  unfold findA at hn
  split at hn
  ·cases hn
  ·next hne =>
   unfold insA
   by_cases hl : k < p.1
   ·rw [if_pos hl]
    show (if k = j then some o else findA (p :: t) j) = _
    by_cases hj : j = k
    ·rw [if_pos hj, if_pos hj.symm]
    ·rw [if_neg hj, if_neg (by omega)]
   ·rw [if_neg hl]
    show (if p.1 = j then some p.2 else findA (insA t k o) j) = if j = k then some o else if p.1 = j then some p.2 else findA t j
    rw [ih hn]
    by_cases hj : j = k
    ·rw [if_pos hj, if_pos hj, if_neg (by omega)]
    ·rw [if_neg hj, if_neg hj]
theorem ext_sorted {M N : List (Int × α)} (h1 : SortedA M) (h2 : SortedA N) (h : ∀ k, findA M k = findA N k) : M = N := by
 induction M generalizing N with
 | nil =>
  cases N with
  | nil => rfl
  | cons q s => have := h q.1; simp [findA] at this
 | cons p t ih =>
  obtain ⟨a1, a2⟩ := List.pairwise_cons.1 h1
  cases N with
  | nil => have := h p.1; simp [findA] at this
  | cons q s =>
   obtain ⟨b1, b2⟩ := List.pairwise_cons.1 h2
   have e : p.1 = q.1 := by
    apply Decidable.byContradiction
    intro hne
    rcases (by omega : p.1 < q.1 ∨ q.1 < p.1) with hl | hl
    ·have := h p.1
     rw [find_lt (M := q :: s) (fun x hx => by
      rcases List.mem_cons.1 hx with rfl | hx
      ·exact hl
      ·have := b1 x hx; omega)] at this
     simp [findA] at this
    ·have := h q.1
     rw [find_lt (M := p :: t) (fun x hx => by
      rcases List.mem_cons.1 hx with rfl | hx
      ·exact hl
      ·have := a1 x hx; omega)] at this
     simp [findA] at this
   have e2 : p.2 = q.2 := by
    have := h p.1
    simp only [findA, if_pos, e] at this
    simpa using this
   have e3 : p = q := Prod.ext e e2
   subst e3
   rw [ih a2 b2 fun k => by
    by_cases hk : p.1 = k
    ·subst hk
     rw [find_lt a1, find_lt b1]
    ·have := h k
     simp only [findA, if_neg hk] at this
     exact this]
theorem find_map (f : α → β) (k : Int) : ∀ M : List (Int × α), findA (mapA f M) k = (findA M k).map f
 | [] => rfl
 | p :: t => by
  have := find_map f k t
  show (if p.1 = k then some (f p.2) else findA (mapA f t) k) = (if p.1 = k then some p.2 else findA t k).map f
  split
  ·rfl
  ·exact this
theorem sorted_map (f : α → β) {M : List (Int × α)} (h : SortedA M) : SortedA (mapA f M) := by
 unfold SortedA mapA
 rw [List.pairwise_map]
 exact h
theorem sum_map (f : α → β) (φ : β → Nat) : ∀ M : List (Int × α), sumA φ (mapA f M) = sumA (fun o => φ (f o)) M
 | [] => rfl
 | p :: t => by have := sum_map f φ t; simp only [mapA, List.map_cons, sumA] at this ⊢; rw [this]
end
structure Ch where
 key : Int
 val : List UInt8
 drop : Bool
structure Ob where
 val : List UInt8
 seg : Nat
 pos : Nat
abbrev OM := List (Int × Ob)
def wF (v : List UInt8) : Nat := pagesF (7 + v.length)
def take1 (seg pos : Nat) (M : OM) (c : Ch) : OM := if c.drop then delA M c.key else insA (delA M c.key) c.key ⟨c.val, seg, pos⟩
def takesF (M : OM) (l : List Ch) (seg pos : Nat) : OM := l.foldl (take1 seg pos) M
theorem take1_sorted {M : OM} (h : SortedA M) (s a : Nat) (c : Ch) : SortedA (take1 s a M c) := by
 unfold take1
 split
 ·exact sorted_del h _
 ·exact sorted_ins (sorted_del h _) _ _ (by rw [find_del h, if_pos rfl])
theorem take1_find {M : OM} (h : SortedA M) (s a : Nat) (c : Ch) (j : Int) : findA (take1 s a M c) j = if j = c.key then (if c.drop then none else some ⟨c.val, s, a⟩) else findA M j := by
 unfold take1
 split
 ·next hd => rw [find_del h]
 ·next hd =>
  rw [find_ins _ _ _ (by rw [find_del h, if_pos rfl]), find_del h]
  by_cases hj : j = c.key
  ·rw [if_pos hj, if_pos hj]
  ·rw [if_neg hj, if_neg hj, if_neg hj]
theorem take1_sum (φ : Ob → Nat) {M : OM} (h : SortedA M) (s a : Nat) (c : Ch) : sumA φ (take1 s a M c) + ((findA M c.key).map φ).getD 0 = sumA φ M + (if c.drop then 0 else φ ⟨c.val, s, a⟩) := by
 have := sum_del φ c.key M
 unfold take1
 split
 ·omega
 ·rw [sum_ins]; omega
theorem takes_sorted (s a : Nat) (l : List Ch) : ∀ {M : OM}, SortedA M → SortedA (takesF M l s a) := by
 induction l with
 | nil => intro M h; exact h
 | cons c l ih => intro M h; exact ih (take1_sorted h s a c)
def RisesC (l : List Ch) : Prop := l.Pairwise (fun a b => a.key < b.key)
theorem takes_other (s a : Nat) (l : List Ch) (j : Int) (hj : ∀ c ∈ l, c.key ≠ j) : ∀ {M : OM}, SortedA M → findA (takesF M l s a) j = findA M j := by
 induction l with
 | nil => intro M h; rfl
 | cons c l ih =>
  intro M h
  show findA (takesF (take1 s a M c) l s a) j = _
  rw [ih (fun x hx => hj x (by simp [hx])) (take1_sorted h s a c), take1_find h, if_neg (fun e => hj c (by simp) e.symm)]
theorem takes_find (s a : Nat) (l : List Ch) (hr : RisesC l) (c : Ch) (hc : c ∈ l) : ∀ {M : OM}, SortedA M → findA (takesF M l s a) c.key = if c.drop then none else some ⟨c.val, s, a⟩ := by
 induction l with
 | nil => cases hc
 | cons d l ih =>
  intro M h
  obtain ⟨h1, h2⟩ := List.pairwise_cons.1 hr
  show findA (takesF (take1 s a M d) l s a) c.key = _
  rcases List.mem_cons.1 hc with rfl | hc
  ·rw [takes_other s a l c.key (fun x hx => by have := h1 x hx; omega) (take1_sorted h s a c), take1_find h, if_pos rfl]
  ·exact ih h2 hc (take1_sorted h s a d)
def chB (c : Ch) : List UInt8 := if c.drop then 0 :: putN 4 c.key.toNat else (1 :: putN 4 c.key.toNat) ++ putN 2 c.val.length ++ c.val
def recF (l : List Ch) : List UInt8 := l.flatMap chB
theorem chB_len (c : Ch) : (chB c).length = if c.drop then 5 else 7 + c.val.length := by
 unfold chB
 split
 ·simp [putN_len]
 ·simp [putN_len]; omega
theorem recF_cons (c : Ch) (l : List Ch) : recF (c :: l) = chB c ++ recF l := rfl
theorem recF_sub {l m : List Ch} (h : l.Sublist m) : (recF l).length ≤ (recF m).length := by
 induction h with
 | slnil => exact Nat.le_refl _
 | cons a _ ih => rw [recF_cons, List.length_append]; omega
 | cons_cons a _ ih => rw [recF_cons, recF_cons, List.length_append, List.length_append]; omega
theorem pages_mono {a b : Nat} (h : a ≤ b) : pagesF a ≤ pagesF b := by unfold pagesF; split <;> split <;> omega
theorem pages_add (a b : Nat) : pagesF (a + b) ≤ pagesF a + pagesF b := by unfold pagesF; split <;> split <;> split <;> omega
def pgs (l : List Ch) : Nat := pagesF (recF l).length
def usedS : List (List Ch) → Nat
 | [] => 0
 | l :: t => pgs l + usedS t
theorem usedS_snoc (rs : List (List Ch)) (l : List Ch) : usedS (rs ++ [l]) = usedS rs + pgs l := by
 induction rs with
 | nil => simp [usedS]
 | cons x rs ih => simp only [List.cons_append, usedS, ih]; omega
theorem usedS_eq (rs : List (List Ch)) : usedF (rs.map recF) = usedS rs := by
 induction rs with
 | nil => rfl
 | cons x rs ih => simp only [List.map_cons, usedF, usedS, ih]; rfl
def chW (c : Ch) : Nat := if c.drop then 0 else wF c.val
def sumC : List Ch → Nat
 | [] => 0
 | c :: l => chW c + sumC l
theorem pgs_le (l : List Ch) (hd : ∀ c ∈ l, c.drop = false) (hne : l ≠ []) : pgs l ≤ sumC l := by
 induction l with
 | nil => exact absurd rfl hne
 | cons c l ih =>
  have h1 := chB_len c
  have hc := hd c (by simp)
  rw [hc] at h1
  simp only [Bool.false_eq_true, if_false] at h1
  have e : chW c = pagesF (7 + c.val.length) := by unfold chW wF; rw [hc]; rfl
  unfold pgs
  rw [recF_cons, List.length_append, h1]
  by_cases hl : l = []
  ·subst hl
   simp only [sumC, e]
   have : (recF []).length = 0 := rfl
   rw [this, Nat.add_zero]; omega
  ·have := ih (fun x hx => hd x (by simp [hx])) hl
   have h2 := pages_add (7 + c.val.length) (recF l).length
   unfold pgs at this
   simp only [sumC, e]
   omega
structure St where
 D : Nat
 init : List (List (List Ch))
 last : List (List Ch)
 M : OM
def St.segs (st : St) : List (List (List Ch)) := st.init ++ [st.last]
def St.num (st : St) : Nat := st.D + st.init.length + 1
def fitsS (st : St) (l : List Ch) : Prop := usedS st.last + pgs l ≤ 7
instance (st : St) (l : List Ch) : Decidable (fitsS st l) := by unfold fitsS; exact inferInstance
def appS (st : St) (l : List Ch) : St :=
 if fitsS st l then { st with last := st.last ++ [l], M := takesF st.M l st.num st.last.length }
 else { st with init := st.init ++ [st.last], last := [l], M := takesF st.M l (st.num + 1) 0 }
def keepC (M : OM) (num i : Nat) (c : Ch) : Bool := !c.drop && (match findA M c.key with | some o => o.seg == num && o.pos == i | none => false)
def FormC (l : List Ch) : Prop := RisesC l ∧ (∀ c ∈ l, 1 ≤ c.key ∧ c.key ≤ 2147483647 ∧ c.val.length ≤ 256 ∧ (c.drop = true → c.val = [])) ∧ (recF l).length ≤ 400
def RecAt (st : St) (seg pos : Nat) (l : List Ch) : Prop := ∃ j rs, st.segs[j]? = some rs ∧ seg = st.D + j + 1 ∧ rs[pos]? = some l
def Placed (st : St) : Prop := ∀ k o, findA st.M k = some o → ∃ l, RecAt st o.seg o.pos l ∧ (⟨k, o.val, false⟩ : Ch) ∈ l
def repR (num : Nat) : List (List Ch) → Nat → OM → OM
 | [], _, M => M
 | l :: rs, i, M => repR num rs (i + 1) (takesF M l num i)
def repS : Nat → List (List (List Ch)) → OM → OM
 | _, [], M => M
 | num, rs :: t, M => repS (num + 1) t (repR num rs 0 M)
theorem repR_snoc (num : Nat) (l : List Ch) : ∀ (rs : List (List Ch)) (i : Nat) (M : OM), repR num (rs ++ [l]) i M = takesF (repR num rs i M) l num (i + rs.length)
 | [], i, M => rfl
 | r :: rs, i, M => by
  show repR num (rs ++ [l]) (i + 1) _ = takesF (repR num rs (i + 1) _) l num (i + (rs.length + 1))
  rw [repR_snoc num l rs, show i + 1 + rs.length = i + (rs.length + 1) by omega]
theorem repS_snoc (rs : List (List Ch)) : ∀ (t : List (List (List Ch))) (num : Nat) (M : OM), repS num (t ++ [rs]) M = repR (num + t.length) rs 0 (repS num t M)
 | [], num, M => rfl
 | r :: t, num, M => by
  show repS (num + 1) (t ++ [rs]) _ = repR (num + (t.length + 1)) rs 0 (repS (num + 1) t _)
  rw [repS_snoc rs t, show num + 1 + t.length = num + (t.length + 1) by omega]
def ReplayS (st : St) : Prop := repS (st.D + 1) st.segs [] = st.M
structure InvS (n : Nat) (st : St) : Prop where
 few : st.init.length + 1 ≤ n
 recs : ∀ rs ∈ st.segs, usedS rs ≤ 7 ∧ ∀ l ∈ rs, FormC l
 sorted : SortedA st.M
 placed : Placed st
 rep : ReplayS st
def wO (o : Ob) : Nat := wF o.val
def valM (M : OM) (k : Int) : Option (List UInt8) := (findA M k).map Ob.val
theorem formC_sub {l m : List Ch} (h : l.Sublist m) (hm : FormC m) : FormC l :=
 ⟨List.Pairwise.sublist h hm.1, fun c hc => hm.2.1 c (h.subset hc), Nat.le_trans (recF_sub h) hm.2.2⟩
theorem pgs_le7 {l : List Ch} (h : FormC l) : pgs l ≤ 7 := by
 have := h.2.2
 unfold pgs pagesF
 split <;> omega
theorem pgs_pos (l : List Ch) : 1 ≤ pgs l := by unfold pgs pagesF; split <;> omega
section
variable {st : St} {l : List Ch}
theorem appS_fit (h : fitsS st l) : appS st l = { st with last := st.last ++ [l], M := takesF st.M l st.num st.last.length } := by unfold appS; rw [if_pos h]
theorem appS_new (h : ¬ fitsS st l) : appS st l = { st with init := st.init ++ [st.last], last := [l], M := takesF st.M l (st.num + 1) 0 } := by unfold appS; rw [if_neg h]
def putSeg (st : St) (l : List Ch) : Nat := if fitsS st l then st.num else st.num + 1
def putPos (st : St) (l : List Ch) : Nat := if fitsS st l then st.last.length else 0
theorem appS_M : (appS st l).M = takesF st.M l (putSeg st l) (putPos st l) := by unfold appS putSeg putPos; split <;> rfl
theorem appS_rec {s a : Nat} {m : List Ch} (h : RecAt st s a m) : RecAt (appS st l) s a m := by
 obtain ⟨j, rs, h1, h2, h3⟩ := h
 unfold St.segs at h1
 by_cases hf : fitsS st l
 ·rw [appS_fit hf]
  by_cases hj : j < st.init.length
  ·rw [List.getElem?_append_left hj] at h1
   exact ⟨j, rs, by unfold St.segs; rw [List.getElem?_append_left hj]; exact h1, h2, h3⟩
  ·rw [List.getElem?_append_right (by omega)] at h1
   obtain ⟨i, hi⟩ : ∃ i, j - st.init.length = i := ⟨_, rfl⟩
   rw [hi] at h1
   cases i with
   | succ i => simp at h1
   | zero =>
    have : st.last = rs := by simpa using h1
    subst this
    refine ⟨j, st.last ++ [l], ?_, h2, ?_⟩
    ·unfold St.segs; rw [List.getElem?_append_right (by simp; omega)]; simp [hi]
    ·rw [List.getElem?_append_left (List.getElem?_eq_some_iff.1 h3).1]; exact h3
 ·rw [appS_new hf]
  have hlt := (List.getElem?_eq_some_iff.1 h1).1
  refine ⟨j, rs, ?_, h2, h3⟩
  show ((st.init ++ [st.last]) ++ [[l]])[j]? = some rs
  rw [List.getElem?_append_left hlt]; exact h1
theorem appS_put : RecAt (appS st l) (putSeg st l) (putPos st l) l := by
 unfold putSeg putPos
 by_cases hf : fitsS st l
 ·rw [appS_fit hf, if_pos hf, if_pos hf]
  exact ⟨st.init.length, st.last ++ [l], by unfold St.segs; simp, rfl, by simp⟩
 ·rw [appS_new hf, if_neg hf, if_neg hf]
  exact ⟨st.init.length + 1, [l], by unfold St.segs; simp, by unfold St.num; simp; omega, by simp⟩
end
theorem replay_app {st : St} {l : List Ch} (h : ReplayS st) : ReplayS (appS st l) := by
 by_cases hf : fitsS st l
 ·rw [appS_fit hf]
  show repS (st.D + 1) (st.init ++ [st.last ++ [l]]) [] = takesF st.M l st.num st.last.length
  rw [repS_snoc, repR_snoc, Nat.zero_add]
  have h' : repS (st.D + 1) (st.init ++ [st.last]) [] = st.M := h
  rw [repS_snoc] at h'
  rw [h', show st.D + 1 + st.init.length = st.num by unfold St.num; omega]
 ·rw [appS_new hf]
  show repS (st.D + 1) ((st.init ++ [st.last]) ++ [[l]]) [] = takesF st.M l (st.num + 1) 0
  rw [repS_snoc]
  have h' : repS (st.D + 1) (st.init ++ [st.last]) [] = st.M := h
  rw [h', show st.D + 1 + (st.init ++ [st.last]).length = st.num + 1 by unfold St.num; simp; omega]
  rfl
theorem appS_inv {n : Nat} {st : St} {l : List Ch} (h : InvS n st) (hl : FormC l) (hroom : ¬ fitsS st l → st.init.length + 2 ≤ n) : InvS n (appS st l) := by
 have h7 := pgs_le7 hl
 refine ⟨?_, ?_, ?_, ?_, replay_app h.rep⟩
 ·by_cases hf : fitsS st l
  ·rw [appS_fit hf]; exact h.few
  ·rw [appS_new hf]; have := hroom hf; simp; omega
 ·intro rs hrs
  have hlast := h.recs st.last (by simp [St.segs])
  by_cases hf : fitsS st l
  ·rw [appS_fit hf] at hrs
   simp only [St.segs, List.mem_append, List.mem_singleton] at hrs
   rcases hrs with hrs | rfl
   ·exact h.recs rs (by simp [St.segs, hrs])
   ·refine ⟨by rw [usedS_snoc]; exact hf, fun m hm => ?_⟩
    rcases List.mem_append.1 hm with hm | hm
    ·exact hlast.2 m hm
    ·have : m = l := by simpa using hm
     rw [this]; exact hl
  ·rw [appS_new hf] at hrs
   simp only [St.segs, List.mem_append, List.mem_singleton] at hrs
   rcases hrs with (hrs | rfl) | rfl
   ·exact h.recs rs (by simp [St.segs, hrs])
   ·exact hlast
   ·refine ⟨by simp only [usedS]; omega, fun m hm => ?_⟩
    have : m = l := by simpa using hm
    rw [this]; exact hl
 ·rw [appS_M]; exact takes_sorted _ _ _ h.sorted
 ·intro k o hk
  rw [appS_M] at hk
  by_cases hc : ∃ c ∈ l, c.key = k
  ·obtain ⟨c, hc, rfl⟩ := hc
   rw [takes_find _ _ l hl.1 c hc h.sorted] at hk
   split at hk
   ·cases hk
   ·next hd =>
    cases hk
    refine ⟨l, appS_put, ?_⟩
    have e : (⟨c.key, c.val, false⟩ : Ch) = c := by cases c; simp_all
    rw [e]; exact hc
  ·rw [takes_other _ _ l k (fun c hcm he => hc ⟨c, hcm, he⟩) h.sorted] at hk
   obtain ⟨m, hm, hin⟩ := h.placed k o hk
   exact ⟨m, appS_rec hm, hin⟩
def liveW (s : Nat) (o : Ob) : Nat := if s ≤ o.seg then wF o.val else 0
theorem takes_live (s seg pos : Nat) (l : List Ch) (hr : RisesC l) : ∀ {M : OM}, SortedA M → (∀ c ∈ l, c.drop = false ∧ ∃ o, findA M c.key = some o ∧ o.seg < s) → sumA (liveW s) (takesF M l seg pos) = sumA (liveW s) M + (if s ≤ seg then sumC l else 0) := by
 induction l with
 | nil => intro M _ _; simp [takesF, sumC]
 | cons c l ih =>
  intro M h hall
  obtain ⟨h1, h2⟩ := List.pairwise_cons.1 hr
  obtain ⟨hd, o, ho, hlt⟩ := hall c (by simp)
  show sumA _ (takesF (take1 seg pos M c) l seg pos) = _
  rw [ih h2 (take1_sorted h _ _ _) (fun d hdm => by
   obtain ⟨q1, o', q2, q3⟩ := hall d (by simp [hdm])
   refine ⟨q1, o', ?_, q3⟩
   rw [take1_find h, if_neg (fun e => by have := h1 d hdm; omega)]
   exact q2)]
  have := take1_sum (liveW s) h seg pos c
  rw [ho, hd] at this
  have e0 : liveW s o = 0 := by unfold liveW; rw [if_neg (by omega)]
  simp only [Option.map_some, Option.getD_some, e0, Nat.add_zero, Bool.false_eq_true, if_false] at this
  rw [this]
  have e1 : liveW s ⟨c.val, seg, pos⟩ = if s ≤ seg then chW c else 0 := by unfold liveW chW; rw [hd]; rfl
  rw [e1]
  simp only [sumC]
  split <;> omega
theorem live_le (s : Nat) (M : OM) : sumA (liveW s) M ≤ sumA wO M := sum_le (fun o => by unfold liveW wO; split <;> omega) M
theorem rises_same {l : List Ch} (hr : RisesC l) {c d : Ch} (hc : c ∈ l) (hd : d ∈ l) (h : c.key = d.key) : c = d := by
 induction l with
 | nil => cases hc
 | cons x l ih =>
  obtain ⟨h1, h2⟩ := List.pairwise_cons.1 hr
  rcases List.mem_cons.1 hc with e1 | hc1
  ·rcases List.mem_cons.1 hd with e2 | hd1
   ·rw [e1, e2]
   ·have := h1 d hd1
    rw [e1] at h
    omega
  ·rcases List.mem_cons.1 hd with e2 | hd1
   ·have := h1 c hc1
    rw [e2] at h
    omega
   ·exact ih h2 hc1 hd1
theorem recAt_one {st : St} {rs0 : List (List Ch)} {t : List (List (List Ch))} (h : st.init = rs0 :: t) {a : Nat} {l : List Ch} (hr : RecAt st (st.D + 1) a l) : rs0[a]? = some l := by
 obtain ⟨j, rs, h1, h2, h3⟩ := hr
 have : j = 0 := by omega
 subst this
 unfold St.segs at h1
 rw [h] at h1
 have : rs0 = rs := by simpa using h1
 rw [this]; exact h3
theorem usedS_append (a b : List (List Ch)) : usedS (a ++ b) = usedS a + usedS b := by
 induction a with
 | nil => simp [usedS]
 | cons x a ih => simp only [List.cons_append, usedS, ih]; omega
theorem val_map {M N : OM} (h1 : SortedA M) (h2 : SortedA N) (h : ∀ k, valM M k = valM N k) : mapA Ob.val M = mapA Ob.val N :=
 ext_sorted (sorted_map _ h1) (sorted_map _ h2) (fun k => by rw [find_map, find_map]; exact h k)
theorem weight_same {M N : OM} (h1 : SortedA M) (h2 : SortedA N) (h : ∀ k, valM M k = valM N k) : sumA wO M = sumA wO N := by
 have e1 := sum_map Ob.val wF M
 have e2 := sum_map Ob.val wF N
 rw [val_map h1 h2 h] at e1
 exact e1.symm.trans e2
def LikeBut (s : Nat) (M N : OM) : Prop := ∀ k, findA M k = findA N k ∨ (findA N k = none ∧ ∃ o, findA M k = some o ∧ o.seg = s)
theorem like_takes {s num a : Nat} {M N : OM} (h1 : SortedA M) (h2 : SortedA N) (h : LikeBut s M N) (l : List Ch) (hr : RisesC l) : LikeBut s (takesF M l num a) (takesF N l num a) := by
 intro k
 by_cases hk : ∃ c ∈ l, c.key = k
 ·obtain ⟨c, hc, rfl⟩ := hk
  left
  rw [takes_find num a l hr c hc h1, takes_find num a l hr c hc h2]
 ·have hk' : ∀ c ∈ l, c.key ≠ k := fun c hc e => hk ⟨c, hc, e⟩
  rw [takes_other num a l k hk' h1, takes_other num a l k hk' h2]
  exact h k
theorem repR_sorted (num : Nat) : ∀ (rs : List (List Ch)) (i : Nat) (M : OM), SortedA M → SortedA (repR num rs i M)
 | [], _, _, h => h
 | l :: rs, i, M, h => repR_sorted num rs (i + 1) _ (takes_sorted _ _ _ h)
theorem repS_sorted : ∀ (t : List (List (List Ch))) (num : Nat) (M : OM), SortedA M → SortedA (repS num t M)
 | [], _, _, h => h
 | rs :: t, num, M, h => repS_sorted t (num + 1) _ (repR_sorted num rs 0 M h)
theorem like_repR {s num : Nat} : ∀ (rs : List (List Ch)) (i : Nat) (M N : OM), SortedA M → SortedA N → LikeBut s M N → (∀ l ∈ rs, RisesC l) → LikeBut s (repR num rs i M) (repR num rs i N)
 | [], _, _, _, _, _, h, _ => h
 | l :: rs, i, M, N, h1, h2, h, hr => like_repR rs (i + 1) _ _ (takes_sorted _ _ _ h1) (takes_sorted _ _ _ h2) (like_takes h1 h2 h l (hr l List.mem_cons_self)) (fun l' hl => hr l' (List.mem_cons_of_mem _ hl))
theorem like_repS {s : Nat} : ∀ (t : List (List (List Ch))) (num : Nat) (M N : OM), SortedA M → SortedA N → LikeBut s M N → (∀ rs ∈ t, ∀ l ∈ rs, RisesC l) → LikeBut s (repS num t M) (repS num t N)
 | [], _, _, _, _, _, h, _ => h
 | rs :: t, num, M, N, h1, h2, h, hr => like_repS t (num + 1) _ _ (repR_sorted _ _ _ _ h1) (repR_sorted _ _ _ _ h2) (like_repR rs 0 M N h1 h2 h (hr rs List.mem_cons_self)) (fun rs' hl => hr rs' (List.mem_cons_of_mem _ hl))
theorem repR_seg {num : Nat} : ∀ (rs : List (List Ch)) (i : Nat) (M : OM), SortedA M → (∀ k o, findA M k = some o → o.seg = num) → (∀ l ∈ rs, RisesC l) → ∀ k o, findA (repR num rs i M) k = some o → o.seg = num
  | [], _, _, _, h, _ => h
  | l :: rs, i, M, hs, h, hr => repR_seg rs (i + 1) _ (takes_sorted _ _ _ hs) (fun k o ho => by
      by_cases hk : ∃ c ∈ l, c.key = k
      · obtain ⟨c, hc, rfl⟩ := hk
        rw [takes_find num i l (hr l List.mem_cons_self) c hc hs] at ho
        split at ho
        · cases ho
        · cases ho; rfl
      · rw [takes_other num i l k (fun c hc e => hk ⟨c, hc, e⟩) hs] at ho
        exact h k o ho) (fun l' hl => hr l' (List.mem_cons_of_mem _ hl))
theorem replay_drop {rs : List (List Ch)} {t : List (List (List Ch))} {num : Nat} {M : OM} (hr : ∀ r ∈ rs :: t, ∀ l ∈ r, RisesC l) (h : repS num (rs :: t) [] = M) (hM : ∀ k o, findA M k = some o → o.seg ≠ num) : repS (num + 1) t [] = M := by
 have hs0 : SortedA ([] : OM) := List.Pairwise.nil
 have hseg := repR_seg rs 0 [] hs0 (num := num) (fun k o ho => by cases ho) (hr rs List.mem_cons_self)
 have hlike : LikeBut num (repR num rs 0 []) [] := fun k => by
  cases ho : findA (repR num rs 0 []) k with
  | none => exact .inl rfl
  | some o => exact .inr ⟨rfl, o, rfl, hseg k o ho⟩
 have hl := like_repS t (num + 1) _ _ (repR_sorted _ _ _ _ hs0) hs0 hlike (fun r hm => hr r (List.mem_cons_of_mem _ hm))
 have h' : repS (num + 1) t (repR num rs 0 []) = M := h
 refine ext_sorted (repS_sorted _ _ _ hs0) (by rw [← h']; exact repS_sorted _ _ _ (repR_sorted _ _ _ _ hs0)) (fun k => ?_)
 have hk := hl k
 rw [h'] at hk
 rcases hk with hk | ⟨_, o, h1, h2⟩
 ·exact hk.symm
 ·exact absurd h2 (hM k o h1)
open Go.Maps (Keyed)
abbrev KL (k : Int) : Lit := .int .i64 k
def I64 (k : Int) : Prop := -9223372036854775808 ≤ k ∧ k ≤ 9223372036854775807
theorem kl_wf {k : Int} (h : I64 k) : (KL k).wf = true := by
 obtain ⟨h1, h2⟩ := h
 have e1 : IntKind.i64.min = -9223372036854775808 := by decide
 have e2 : IntKind.i64.max = 9223372036854775807 := by decide
 simp [KL, Lit.wf]
 omega
theorem int_law : Keyed Tryz.prog 3 := Go.Maps.int_keyed Tryz.underlying3
theorem kl_of {k : Int} (h : I64 k) : keyOf Tryz.prog 3 (I k) = some (KL k) := Go.Maps.keyOf_int_mk Tryz.underlying3 (kl_wf h)
section
variable {α : Type}
structure AMapAt (R : Value → Option (DataW Unit × List MemPlace)) (enc : α → DataW Unit) (w : World) (b : Nat) (M : List (Int × α)) : Prop where
 own : ∃ D, w.ownsMap Tryz.prog 3 R b M.length D ∧ Maps.size D = M.length ∧ (∀ k, Maps.has D (KL k) = (findA M k).isSome) ∧ (∀ k o, findA M k = some o → ∀ z, D.atKey (KL k) z = enc o)
 srt : SortedA M
variable {R : Value → Option (DataW Unit × List MemPlace)} {enc : α → DataW Unit} {w : World} {b : Nat} {M : List (Int × α)}
theorem AMapAt.lt (h : AMapAt R enc w b M) : b < w.heap.size := by obtain ⟨D, h1, _⟩ := h.own; exact h1.lt
theorem ownsMap_block {P : Program} {k : TypeId} {n : Nat} {D : DataW Unit} {w' : World} (h : w.ownsMap P k R b n D) (e : w'.heap[b]? = w.heap[b]?) : w'.ownsMap P k R b n D := by
 obtain ⟨es, clock, hb, r⟩ := h
 exact ⟨es, clock, e.trans hb, r⟩
theorem AMapAt.kept {w' : World} {T : List Nat} (h : AMapAt R enc w b M) (k : Kept T w w') (hb : b ∉ T) : AMapAt R enc w' b M := by
 obtain ⟨D, h1, h2⟩ := h.own
 exact ⟨⟨D, ownsMap_block h1 (k.block b h1.lt hb), h2⟩, h.srt⟩
theorem AMapAt.same {w' : World} (h : AMapAt R enc w b M) (k : Kept [] w w') : AMapAt R enc w' b M := h.kept k (by simp)
theorem kl_ne {j k : Int} (h : j ≠ k) : KL j ≠ KL k := fun e => by cases e; exact h rfl
theorem amap_made (w : World) : AMapAt (α := α) R enc (w.alloc (.map #[] 0)) w.heap.size [] :=
 ⟨⟨_, World.ownsMap_made w _ _ _, rfl, fun _ => rfl, fun _ _ h => by cases h⟩, List.Pairwise.nil⟩
theorem AMapAt.look_some (h : AMapAt R enc w b M) {t e : TypeId} (ht : Tryz.prog.underlying t = some (.map 3 e)) {z : Value} (hz : (zeroValue e).run Tryz.prog w = .ok z w) {zd : DataW Unit} (hzd : R z = some (zd, [])) {val : α → Value} (hR : ∀ v o ps, R v = some (enc o, ps) → v = val o)
  {k : Int} (hk : I64 k) {o : α} (ho : findA M k = some o) : (Instr.lookup t (.map (some b)) (I k) true).run Tryz.prog w = .ok (.tuple #[val o, .bool true]) w := by
 obtain ⟨D, h1, h2, h3, h4⟩ := h.own
 obtain ⟨v, ps, hrun, hv⟩ := h1.look_ok int_law ht hz hzd (kl_of hk)
 rw [h4 k o ho] at hv
 rw [hrun, hR v o ps hv, h3, ho]
 rfl
theorem AMapAt.look_none (h : AMapAt R enc w b M) {t e : TypeId} (ht : Tryz.prog.underlying t = some (.map 3 e)) {z : Value} (hz : (zeroValue e).run Tryz.prog w = .ok z w) {zd : DataW Unit} (hzd : R z = some (zd, [])) (hR : ∀ v ps, R v = some (zd, ps) → v = z)
  {k : Int} (hk : I64 k) (ho : findA M k = none) : (Instr.lookup t (.map (some b)) (I k) true).run Tryz.prog w = .ok (.tuple #[z, .bool false]) w := by
 obtain ⟨D, h1, h2, h3, h4⟩ := h.own
 obtain ⟨v, ps, hrun, hv⟩ := h1.look_ok int_law ht hz hzd (kl_of hk)
 have hh := h3 k
 rw [ho] at hh
 rw [Maps.atKey_of_not_has hh] at hv
 rw [hrun, hR v ps hv, hh]; rfl
theorem AMapAt.look (h : AMapAt R enc w b M) {t e : TypeId} (ht : Tryz.prog.underlying t = some (.map 3 e)) {z : α} {val : α → Value} (hz : (zeroValue e).run Tryz.prog w = .ok (val z) w) (hzd : R (val z) = some (enc z, [])) (hR : ∀ v o ps, R v = some (enc o, ps) → v = val o)
  {k : Int} (hk : I64 k) : (Instr.lookup t (.map (some b)) (I k) false).run Tryz.prog w = .ok (val ((findA M k).getD z)) w := by
 obtain ⟨D, h1, h2, h3, h4⟩ := h.own
 obtain ⟨v, ps, hrun, hv⟩ := h1.lookup int_law ht hz hzd (kl_of hk)
 have hh := h3 k
 cases ho : findA M k with
 | none =>
  rw [ho] at hh
  rw [Maps.atKey_of_not_has hh] at hv
  rw [hrun, hR v z ps hv]; rfl
 | some o =>
  rw [h4 k o ho] at hv
  rw [hrun, hR v o ps hv]; rfl
theorem len_ins (k : Int) (o : α) : ∀ M : List (Int × α), (insA M k o).length = M.length + 1
 | [] => rfl
 | p :: t => by unfold insA; split <;> simp [len_ins k o t]
theorem len_del (k : Int) : ∀ M : List (Int × α), (delA M k).length + (if (findA M k).isSome then 1 else 0) = M.length
 | [] => rfl
 | p :: t => by
  have := len_del k t
  unfold delA findA
  split
  ·simp
  ·simp only [List.length_cons]; omega
theorem AMapAt.store (h : AMapAt R enc w b M) {t e : TypeId} (ht : Tryz.prog.underlying t = some (.map 3 e)) (hn : M.length < maxLen) {k : Int} (hk : I64 k) {v : Value} {o : α} {ps : List MemPlace} (hv : R v = some (enc o, ps)) :
  ∃ w', (Instr.mapUpdate t (.map (some b)) (I k) v).run Tryz.prog w = .ok () w' ∧ AMapAt R enc w' b (insA (delA M k) k o) ∧ Kept [b] w w' := by
 obtain ⟨D, h1, h2, h3, h4⟩ := h.own
 obtain ⟨w', hrun, hown, hturn⟩ := h1.store int_law ht hn (kl_of hk) hv
 have hlt := h1.lt
 have hf : ∀ j, findA (insA (delA M k) k o) j = if j = k then some o else findA M j := by
  intro j
  rw [find_ins _ _ _ (by rw [find_del h.srt, if_pos rfl]), find_del h.srt]
  by_cases hj : j = k
  ·rw [if_pos hj, if_pos hj]
  ·rw [if_neg hj, if_neg hj, if_neg hj]
 have hkey : WideAt.IsKeyLit (KL k) := trivial
 have hsz : Maps.size (D.put (KL k) (enc o)) = (insA (delA M k) k o).length := by
  rw [Maps.size_put (h1.tidy int_law), len_ins, h3, h2]
  have := len_del k M
  split <;> rename_i hc <;> simp only [hc, if_true, if_false, Bool.false_eq_true] at this <;> omega
 refine ⟨w', hrun, ⟨⟨D.put (KL k) (enc o), ?_, hsz, ?_, ?_⟩, sorted_ins (sorted_del h.srt _) _ _ (by rw [find_del h.srt, if_pos rfl])⟩, ?_⟩
 ·obtain ⟨es, clock, hb, F, hs, hD⟩ := hown
  refine ⟨es, clock, hb, F, ?_, hD⟩
  have e1 : Maps.size (D.put (KL k) (enc o)) = es.size := by rw [hD]; simp [Maps.size, length_sorted]
  omega
 ·intro j
  rw [hf]
  by_cases hj : j = k
  ·subst hj; rw [if_pos rfl]; exact Maps.has_put_same (h1.isMap) hkey _
  ·rw [if_neg hj, Maps.has_put_other (kl_ne hj)]; exact h3 j
 ·intro j x hx z
  rw [hf] at hx
  by_cases hj : j = k
  ·subst hj; rw [if_pos rfl] at hx; cases hx; exact Maps.atKey_put_same h1.isMap hkey _ _
  ·rw [if_neg hj] at hx; rw [Maps.atKey_put_other (kl_ne hj)]; exact h4 j x hx z
 ·have g := hturn.grown
  exact ⟨g.os, g.tape, g.output, g.size, fun i hi hn => g.block i hi (fun e => hn (by cases e; simp))⟩
theorem AMapAt.drop (h : AMapAt R enc w b M) {t e : TypeId} (ht : Tryz.prog.underlying t = some (.map 3 e)) {k : Int} (hk : I64 k) (ty : TypeId) :
  ∃ w', (Builtin.delete_ #[t, 3] ty #[.map (some b), I k]).run Tryz.prog w = .ok (.tuple #[]) w' ∧ AMapAt R enc w' b (delA M k) ∧ Kept [b] w w' := by
 obtain ⟨D, h1, h2, h3, h4⟩ := h.own
 obtain ⟨w', hrun, hown, hturn⟩ := h1.drop int_law ht (kl_of hk) ty
 have hsz : Maps.size (D.del (KL k)) = (delA M k).length := by
  have e1 := Maps.size_del (k := KL k) (h1.tidy int_law)
  have e2 := len_del k M
  rw [h3, h2] at e1
  omega
 refine ⟨w', hrun, ⟨⟨D.del (KL k), ?_, hsz, ?_, ?_⟩, sorted_del h.srt _⟩, ?_⟩
 ·obtain ⟨es, clock, hb, F, hs, hD⟩ := hown
  refine ⟨es, clock, hb, F, ?_, hD⟩
  have e1 : Maps.size (D.del (KL k)) = es.size := by rw [hD]; simp [Maps.size, length_sorted]
  omega
 ·intro j
  rw [find_del h.srt]
  by_cases hj : j = k
  ·subst hj; rw [if_pos rfl]; exact Maps.has_del_same
  ·rw [if_neg hj, Maps.has_del_other (kl_ne hj)]; exact h3 j
 ·intro j x hx z
  rw [find_del h.srt] at hx
  by_cases hj : j = k
  ·subst hj; rw [if_pos rfl] at hx; cases hx
  ·rw [if_neg hj] at hx; rw [Maps.atKey_del_other (kl_ne hj)]; exact h4 j x hx z
 ·have g := hturn.grown
  exact ⟨g.os, g.tape, g.output, g.size, fun i hi hn => g.block i hi (fun e => hn (by cases e; simp))⟩
end
def obV (o : Ob) : Value := .agg #[S o.val, I o.seg, I o.pos]
def obD (o : Ob) : DataW Unit := .agg [.lit (.string o.val), .lit (.int .i64 o.seg), .lit (.int .i64 o.pos)]
def obL : List Value → Option (DataW Unit × List MemPlace)
 | [.string s, .int .i64 a, .int .i64 b] => some (.agg [.lit (.string s.data.toList), .lit (.int .i64 a), .lit (.int .i64 b)], [])
 | _ => none
def obR : Value → Option (DataW Unit × List MemPlace)
 | .agg cs => obL cs.toList
 | _ => none
theorem obR_mk (o : Ob) : obR (obV o) = some (obD o, []) := rfl
theorem obR_inv : ∀ v o ps, obR v = some (obD o, ps) → v = obV o := by
 intro v o ps h
 unfold obR at h
 split at h
 ·next cs =>
  unfold obL at h
  split at h
  ·next s a b hcs =>
   simp only [obD, Option.some.injEq, Prod.mk.injEq, DataW.agg.injEq, List.cons.injEq, DataW.lit.injEq, Lit.string.injEq, Lit.int.injEq, and_true, true_and] at h
   obtain ⟨⟨h1, h2, h3⟩, _⟩ := h
   have : cs = #[.string s, I a, I b] := by rw [← Array.toArray_toList (xs := cs), hcs]
   rw [this]
   unfold obV
   rw [h2, h3, ← h1]
  ·cases h
 ·cases h
theorem ob_zero (w : World) : (zeroValue 176).run Tryz.prog w = .ok (obV ⟨[], 0, 0⟩) w := by kernel_rfl
def ctV (n : Nat) : Value := I n
def ctD (n : Nat) : DataW Unit := .lit (.int .i64 n)
def ctR : Value → Option (DataW Unit × List MemPlace)
 | .int .i64 a => some (.lit (.int .i64 a), [])
 | _ => none
theorem ctR_mk (n : Nat) : ctR (ctV n) = some (ctD n, []) := rfl
theorem ctR_inv : ∀ v n ps, ctR v = some (ctD n, ps) → v = ctV n := by
 intro v n ps h
 unfold ctR at h
 split at h
 ·next a =>
  simp only [ctD, Option.some.injEq, Prod.mk.injEq, DataW.lit.injEq, Lit.int.injEq, true_and] at h
  unfold ctV
  rw [h.1]
 ·cases h
theorem ct_zero (w : World) : (zeroValue 3).run Tryz.prog w = .ok (ctV 0) w := by kernel_rfl
abbrev ObAt := AMapAt obR obD
abbrev CtAt := AMapAt ctR ctD
end Go.Proofs.YteplbljjlbdhaaaGreatDoor
