/- Walks and lemmas on the program of this seat, used by its statements; each theorem bears its own conditions. -/
import Derived.Test.YtncdfaocemfgfaaGreatDoorW10
import Derived.Test.YtncdfaocemfgfaaGreatDoorW29
namespace Go.Proofs.YtncdfaocemfgfaaGreatDoor
open Go.RowKit
set_option linter.unusedVariables false
set_option linter.unusedSimpArgs false
set_option linter.unusedSectionVars false
open Go.RowKit
set_option linter.unusedVariables false
set_option linter.unusedSimpArgs false
set_option maxHeartbeats 8000000
set_option maxRecDepth 100000
abbrev Nm := List UInt8
structure Nd where
  path : List Nm
  num : Nat
  dir : Bool
  data : List UInt8
abbrev En := Nm × Nat
abbrev ltB := Go.Op.bytesLess
theorem ltB_irrefl : ∀ a : Nm, ltB a a = false
  | [] => rfl
  | a :: x => by
    show (decide (a < a) || (a == a && ltB x x)) = false
    rw [ltB_irrefl x]
    simp
theorem ltB_trans : ∀ {a b c : Nm}, ltB a b = true → ltB b c = true → ltB a c = true
  | [], [], _, h, _ => by cases h
  | [], _ :: _, [], _, h => by cases h
  | [], _ :: _, _ :: _, _, _ => rfl
  | _ :: _, [], _, h, _ => by cases h
  | _ :: _, _ :: _, [], _, h => by cases h
  | a :: x, b :: y, c :: z, h1, h2 => by
    have e1 : (decide (a < b) || (a == b && ltB x y)) = true := h1
    have e2 : (decide (b < c) || (b == c && ltB y z)) = true := h2
    show (decide (a < c) || (a == c && ltB x z)) = true
    simp only [Bool.or_eq_true, Bool.and_eq_true, decide_eq_true_eq, beq_iff_eq] at e1 e2 ⊢
    rcases e1 with e1 | ⟨rfl, e1⟩
    · rcases e2 with e2 | ⟨rfl, e2⟩
      · exact .inl (UInt8.lt_trans e1 e2)
      · exact .inl e1
    · rcases e2 with e2 | ⟨rfl, e2⟩
      · exact .inl e2
      · exact .inr ⟨rfl, ltB_trans e1 e2⟩
theorem ltB_asymm {a b : Nm} (h : ltB a b = true) : ltB b a = false := by
  cases hb : ltB b a with
  | false => rfl
  | true => have := ltB_trans h hb; rw [ltB_irrefl] at this; cases this
theorem ltB_total : ∀ {a b : Nm}, a ≠ b → ltB a b = true ∨ ltB b a = true
  | [], [], h => absurd rfl h
  | [], _ :: _, _ => .inl rfl
  | _ :: _, [], _ => .inr rfl
  | a :: x, b :: y, h => by
    show (decide (a < b) || (a == b && ltB x y)) = true ∨ (decide (b < a) || (b == a && ltB y x)) = true
    simp only [Bool.or_eq_true, Bool.and_eq_true, decide_eq_true_eq, beq_iff_eq]
    have htri : a < b ∨ a = b ∨ b < a := by
      rcases Nat.lt_trichotomy a.toNat b.toNat with hl | hl | hl
      · exact .inl hl
      · exact .inr (.inl (UInt8.toNat_inj.1 hl))
      · exact .inr (.inr hl)
    rcases htri with hl | rfl | hl
    · exact .inl (.inl hl)
    · have hne : x ≠ y := fun e => h (by rw [e])
      rcases ltB_total hne with h1 | h1
      · exact .inl (.inr ⟨rfl, h1⟩)
      · exact .inr (.inr ⟨rfl, h1⟩)
    · exact .inr (.inl hl)
theorem ltB_ne {a b : Nm} (h : ltB a b = true) : a ≠ b := fun e => by rw [e, ltB_irrefl] at h; cases h
/-- A name more, where it belongs. -/
def insE : List En → En → List En
  | [], x => [x]
  | y :: t, x => if ltB y.1 x.1 then y :: insE t x else x :: y :: t
abbrev SortE (l : List En) : Prop := l.Pairwise (fun a b => ltB a.1 b.1 = true)
theorem mem_insE (x q : En) : ∀ l : List En, q ∈ insE l x ↔ q = x ∨ q ∈ l
  | [] => by simp [insE]
  | y :: t => by
    unfold insE
    split
    · rw [List.mem_cons, mem_insE x q t, List.mem_cons]
      constructor
      · rintro (h | h | h)
        · exact .inr (.inl h)
        · exact .inl h
        · exact .inr (.inr h)
      · rintro (h | h | h)
        · exact .inr (.inl h)
        · exact .inl h
        · exact .inr (.inr h)
    · rw [List.mem_cons]
theorem insE_len (x : En) : ∀ l : List En, (insE l x).length = l.length + 1
  | [] => rfl
  | y :: t => by unfold insE; split <;> simp [insE_len x t]
theorem sort_insE {l : List En} (h : SortE l) (x : En) (hn : ∀ y ∈ l, y.1 ≠ x.1) : SortE (insE l x) := by
  induction l with
  | nil => simp [insE, SortE]
  | cons y t ih =>
    obtain ⟨h1, h2⟩ := List.pairwise_cons.1 h
    unfold insE
    split
    · next hl =>
      refine List.pairwise_cons.2 ⟨fun q hq => ?_, ih h2 (fun z hz => hn z (by simp [hz]))⟩
      rcases (mem_insE x q t).1 hq with rfl | hq
      · exact hl
      · exact h1 q hq
    · next hl =>
      have hlt : ltB x.1 y.1 = true := by
        rcases ltB_total (hn y (by simp)) with h3 | h3
        · exact absurd h3 hl
        · exact h3
      refine List.pairwise_cons.2 ⟨fun q hq => ?_, h⟩
      rcases List.mem_cons.1 hq with rfl | hq
      · exact hlt
      · exact ltB_trans hlt (h1 q hq)
theorem sortE_ext {a b : List En} (ha : SortE a) (hb : SortE b) (h : ∀ q, q ∈ a ↔ q ∈ b) : a = b := by
  induction a generalizing b with
  | nil =>
    cases b with
    | nil => rfl
    | cons y t => exact absurd ((h y).2 (by simp)) (by simp)
  | cons x s ih =>
    obtain ⟨a1, a2⟩ := List.pairwise_cons.1 ha
    cases b with
    | nil => exact absurd ((h x).1 (by simp)) (by simp)
    | cons y t =>
      obtain ⟨b1, b2⟩ := List.pairwise_cons.1 hb
      have e : x = y := by
        rcases List.mem_cons.1 ((h x).1 (by simp)) with e | hx
        · exact e
        · rcases List.mem_cons.1 ((h y).2 (by simp)) with e | hy
          · exact e.symm
          · have h1 := b1 x hx
            have h2 := a1 y hy
            rw [ltB_asymm h1] at h2
            cases h2
      subst e
      rw [ih a2 b2 fun q => by
        constructor
        · intro hq
          rcases List.mem_cons.1 ((h q).1 (by simp [hq])) with rfl | h3
          · have := a1 q hq; rw [ltB_irrefl] at this; cases this
          · exact h3
        · intro hq
          rcases List.mem_cons.1 ((h q).2 (by simp [hq])) with rfl | h3
          · have := b1 q hq; rw [ltB_irrefl] at this; cases this
          · exact h3]
/-- What a node is in a directory. -/
def kidOf (p : List Nm) (x : Nd) : Option En := if x.path ≠ [] ∧ x.path.dropLast = p then some (x.path.getLast?.getD [], x.num) else none
def kidsU (E : List Nd) (p : List Nm) : List En := E.filterMap (kidOf p)
def kids (E : List Nd) (p : List Nm) : List En := (kidsU E p).foldl insE []
theorem kidOf_some {p : List Nm} {x : Nd} {q : En} : kidOf p x = some q ↔ x.path = p ++ [q.1] ∧ x.num = q.2 := by
  unfold kidOf
  constructor
  · intro h
    split at h
    · next hc =>
      obtain ⟨h1, h2⟩ := hc
      cases h
      refine ⟨?_, rfl⟩
      show x.path = p ++ [x.path.getLast?.getD []]
      rw [List.getLast?_eq_some_getLast h1, ← h2]
      exact (List.dropLast_concat_getLast h1).symm
    · cases h
  · rintro ⟨h1, h2⟩
    rw [if_pos ⟨by rw [h1]; simp, by rw [h1]; simp⟩, h1, h2]
    simp
theorem mem_kidsU {E : List Nd} {p : List Nm} {q : En} : q ∈ kidsU E p ↔ ∃ x ∈ E, x.path = p ++ [q.1] ∧ x.num = q.2 := by
  unfold kidsU
  rw [List.mem_filterMap]
  constructor
  · rintro ⟨x, hx, h⟩; exact ⟨x, hx, kidOf_some.1 h⟩
  · rintro ⟨x, hx, h⟩; exact ⟨x, hx, kidOf_some.2 h⟩
theorem mem_foldl (l : List En) (q : En) : ∀ acc : List En, q ∈ l.foldl insE acc ↔ q ∈ l ∨ q ∈ acc := by
  induction l with
  | nil => intro acc; simp
  | cons x l ih =>
    intro acc
    show q ∈ l.foldl insE (insE acc x) ↔ _
    rw [ih, mem_insE, List.mem_cons]
    constructor
    · rintro (h | h | h)
      · exact .inl (.inr h)
      · exact .inl (.inl h)
      · exact .inr h
    · rintro ((h | h) | h)
      · exact .inr (.inl h)
      · exact .inl h
      · exact .inr (.inr h)
theorem mem_kids {E : List Nd} {p : List Nm} {q : En} : q ∈ kids E p ↔ ∃ x ∈ E, x.path = p ++ [q.1] ∧ x.num = q.2 := by
  unfold kids
  rw [mem_foldl, mem_kidsU]
  simp
def DistP (E : List Nd) : Prop := E.Pairwise (fun a b => a.path ≠ b.path)
theorem distP_eq {E : List Nd} (h : DistP E) {a b : Nd} (ha : a ∈ E) (hb : b ∈ E) (e : a.path = b.path) : a = b := by
  induction E with
  | nil => cases ha
  | cons x t ih =>
    obtain ⟨h1, h2⟩ := List.pairwise_cons.1 h
    rcases List.mem_cons.1 ha with ea | ha2
    · rcases List.mem_cons.1 hb with eb | hb2
      · rw [ea, eb]
      · rw [ea] at e; exact absurd e (h1 b hb2)
    · rcases List.mem_cons.1 hb with eb | hb2
      · rw [eb] at e; exact absurd e.symm (h1 a ha2)
      · exact ih h2 ha2 hb2
theorem sort_foldl (l : List En) : ∀ acc : List En, SortE acc → (l.Pairwise fun a b => a.1 ≠ b.1) → (∀ x ∈ l, ∀ y ∈ acc, y.1 ≠ x.1) → SortE (l.foldl insE acc) := by
  induction l with
  | nil => intro acc h _ _; exact h
  | cons x l ih =>
    intro acc h hp hx
    obtain ⟨h1, h2⟩ := List.pairwise_cons.1 hp
    refine ih _ (sort_insE h x (hx x (by simp))) h2 (fun z hz y hy => ?_)
    rcases (mem_insE x y acc).1 hy with rfl | hy
    · exact h1 z hz
    · exact hx z (by simp [hz]) y hy
theorem sort_kids {E : List Nd} (h : DistP E) (p : List Nm) : SortE (kids E p) := by
  refine sort_foldl _ [] List.Pairwise.nil ?_ (by simp)
  unfold kidsU
  rw [List.pairwise_filterMap]
  refine List.Pairwise.imp (fun {a b} hab => ?_) h
  intro q hq q2 hq2 he
  have e1 := (kidOf_some.1 hq).1
  have e2 := (kidOf_some.1 hq2).1
  exact hab (by rw [e1, e2, he])
theorem kids_is {E : List Nd} (h : DistP E) {p : List Nm} {l : List En} (hl : SortE l) (hm : ∀ q, q ∈ l ↔ ∃ x ∈ E, x.path = p ++ [q.1] ∧ x.num = q.2) : kids E p = l :=
  sortE_ext (sort_kids h p) hl (fun q => by rw [mem_kids, hm])
def ent (E : List Nd) (p : List Nm) : Option Nd := E.find? fun x => decide (x.path = p)
def byNum (E : List Nd) (k : Nat) : Option Nd := E.find? fun x => decide (x.num = k)
theorem ent_mem {E : List Nd} {p : List Nm} {x : Nd} (h : ent E p = some x) : x ∈ E ∧ x.path = p :=
  ⟨List.mem_of_find?_eq_some h, by have := List.find?_some h; simpa using this⟩
theorem ent_none {E : List Nd} {p : List Nm} (h : ent E p = none) : ∀ x ∈ E, x.path ≠ p := by
  unfold ent at h
  rw [List.find?_eq_none] at h
  intro x hx
  simpa using h x hx
theorem ent_of {E : List Nd} (hd : DistP E) {x : Nd} (hx : x ∈ E) : ent E x.path = some x := by
  cases h : ent E x.path with
  | none => exact absurd rfl (ent_none h x hx)
  | some y =>
    obtain ⟨h1, h2⟩ := ent_mem h
    rw [distP_eq hd h1 hx h2]
structure WF (given : Nat) (E : List Nd) : Prop where
  paths : DistP E
  nums : E.Pairwise (fun a b => a.num ≠ b.num)
  num : ∀ x ∈ E, 2 ≤ x.num ∧ x.num ≤ given + 1
  form : ∀ x ∈ E, x.path ≠ [] ∧ x.path.length ≤ 8 ∧ x.path.all WX.nameB = true
  up : ∀ x ∈ E, x.path.dropLast = [] ∨ ∃ y ∈ E, y.path = x.path.dropLast ∧ y.dir = true
  few : ∀ p, (kids E p).length ≤ 6
  data : ∀ x ∈ E, x.data.length ≤ 4096 ∧ (x.dir = true → x.data = [])
theorem num_eq {E : List Nd} (h : E.Pairwise (fun a b => a.num ≠ b.num)) {a b : Nd} (ha : a ∈ E) (hb : b ∈ E) (e : a.num = b.num) : a = b := by
  induction E with
  | nil => cases ha
  | cons x t ih =>
    obtain ⟨h1, h2⟩ := List.pairwise_cons.1 h
    rcases List.mem_cons.1 ha with ea | ha2
    · rcases List.mem_cons.1 hb with eb | hb2
      · rw [ea, eb]
      · rw [ea] at e; exact absurd e (h1 b hb2)
    · rcases List.mem_cons.1 hb with eb | hb2
      · rw [eb] at e; exact absurd e.symm (h1 a ha2)
      · exact ih h2 ha2 hb2
theorem byNum_mem {E : List Nd} {k : Nat} {x : Nd} (h : byNum E k = some x) : x ∈ E ∧ x.num = k :=
  ⟨List.mem_of_find?_eq_some h, by have := List.find?_some h; simpa using this⟩
theorem byNum_none {E : List Nd} {k : Nat} (h : byNum E k = none) : ∀ x ∈ E, x.num ≠ k := by
  unfold byNum at h
  rw [List.find?_eq_none] at h
  intro x hx
  simpa using h x hx
theorem byNum_of {E : List Nd} (hn : E.Pairwise (fun a b => a.num ≠ b.num)) {x : Nd} (hx : x ∈ E) : byNum E x.num = some x := by
  cases h : byNum E x.num with
  | none => exact absurd rfl (byNum_none h x hx)
  | some y =>
    obtain ⟨h1, h2⟩ := byNum_mem h
    rw [num_eq hn h1 hx h2]
def isDirP (E : List Nd) (p : List Nm) : Bool := decide (p = []) || (match ent E p with | some x => x.dir | none => false)
def numP (E : List Nd) (p : List Nm) : Nat := if p = [] then 1 else match ent E p with | some x => x.num | none => 0
/-- The rows. -/
def enB (x : En) : List UInt8 := UInt8.ofNat x.1.length :: (x.1 ++ putN 4 x.2)
def rowD (k : List En) : List UInt8 := 1 :: (k.map enB).flatten
def rowF (n : Nat) : List UInt8 := 0 :: putN 2 n
def chunkF (d : List UInt8) (i : Nat) : List UInt8 := (d.drop (128 * i)).take 128
def rowX (E : List Nd) (x : Nd) : List UInt8 := if x.dir then rowD (kids E x.path) else rowF x.data.length
/-- What the store holds. -/
def objF (given : Nat) (E : List Nd) (k : Int) : Option (List UInt8) :=
  if k = 1 then (if given = 0 then none else some (putN 4 (given + 1)))
  else if k < 64 then none
  else if k.toNat / 64 = 1 then (if k.toNat % 64 = 0 ∧ kids E [] ≠ [] then some (rowD (kids E [])) else none)
  else match byNum E (k.toNat / 64) with
    | none => none
    | some x => if k.toNat % 64 = 0 then some (rowX E x) else if 128 * (k.toNat % 64 - 1) < x.data.length then some (chunkF x.data (k.toNat % 64 - 1)) else none
def SimV (V : OM) (given : Nat) (E : List Nd) : Prop := ∀ k, valM V k = objF given E k
def cnt (n : Nat) : Nat := (n + 127) / 128
def objX (E : List Nd) (x : Nd) : List (Int × List UInt8) := (((64 * x.num : Nat) : Int), rowX E x) :: (List.range (cnt x.data.length)).map fun i => (((64 * x.num + 1 + i : Nat) : Int), chunkF x.data i)
def objL (given : Nat) (E : List Nd) : List (Int × List UInt8) :=
  (if given = 0 then [] else [(1, putN 4 (given + 1))]) ++ ((if kids E [] = [] then [] else [(64, rowD (kids E []))]) ++ (E.map (objX E)).flatten)
theorem mem_objX {E : List Nd} {x : Nd} {k : Int} {v : List UInt8} (hd : x.data.length ≤ 4096) : (k, v) ∈ objX E x ↔ ∃ r : Nat, r < 64 ∧ k = ((64 * x.num + r : Nat) : Int) ∧ (if r = 0 then v = rowX E x else 128 * (r - 1) < x.data.length ∧ v = chunkF x.data (r - 1)) := by
  unfold objX
  rw [List.mem_cons, List.mem_map]
  constructor
  · rintro (h | ⟨i, hi, h⟩)
    · cases h
      exact ⟨0, by omega, rfl, rfl⟩
    · cases h
      rw [List.mem_range] at hi
      unfold cnt at hi
      refine ⟨i + 1, by omega, by omega, ?_⟩
      rw [if_neg (by omega), Nat.add_sub_cancel]
      exact ⟨by omega, rfl⟩
  · rintro ⟨r, hr, rfl, h⟩
    by_cases h0 : r = 0
    · subst h0
      rw [if_pos rfl] at h
      exact .inl (by rw [h]; rfl)
    · rw [if_neg h0] at h
      refine .inr ⟨r - 1, ?_, ?_⟩
      · rw [List.mem_range]; unfold cnt; omega
      · rw [h.2]
        congr 1
        omega
theorem objF_at {given : Nat} {E : List Nd} {n r : Nat} (hr : r < 64) (hn : 2 ≤ n) : objF given E ((64 * n + r : Nat) : Int) = match byNum E n with
    | none => none
    | some x => if r = 0 then some (rowX E x) else if 128 * (r - 1) < x.data.length then some (chunkF x.data (r - 1)) else none := by
  have h1 : (((64 * n + r : Nat) : Int)).toNat / 64 = n := by omega
  have h2 : (((64 * n + r : Nat) : Int)).toNat % 64 = r := by omega
  unfold objF
  rw [if_neg (by omega), if_neg (by omega), h1, h2, if_neg (by omega)]
theorem objF_root {given : Nat} {E : List Nd} : objF given E 64 = if kids E [] ≠ [] then some (rowD (kids E [])) else none := by
  unfold objF
  rw [if_neg (by decide), if_neg (by decide), if_pos (by decide)]
  by_cases h : kids E [] = []
  · rw [if_neg (by intro q; exact q.2 h), if_neg (by simpa using h)]
  · rw [if_pos ⟨by decide, h⟩, if_pos h]
theorem objF_one {given : Nat} {E : List Nd} : objF given E 1 = if given = 0 then none else some (putN 4 (given + 1)) := by unfold objF; rw [if_pos rfl]
theorem mem_objL {given : Nat} {E : List Nd} (h : WF given E) (k : Int) (v : List UInt8) : (k, v) ∈ objL given E ↔ objF given E k = some v := by
  unfold objL
  simp only [List.mem_append, List.mem_flatten, List.mem_map]
  constructor
  · rintro (hm | hm | ⟨l, ⟨x, hx, rfl⟩, hm⟩)
    · split at hm
      · cases hm
      · next hg =>
        have e : (k, v) = (1, putN 4 (given + 1)) := by simpa using hm
        cases e
        rw [objF_one, if_neg hg]
    · split at hm
      · cases hm
      · next hg =>
        have e : (k, v) = (64, rowD (kids E [])) := by simpa using hm
        cases e
        rw [objF_root, if_pos hg]
    · obtain ⟨r, hr, rfl, hv⟩ := (mem_objX (h.data x hx).1).1 hm
      rw [objF_at hr (h.num x hx).1, byNum_of h.nums hx]
      show (if r = 0 then some (rowX E x) else _) = some v
      by_cases h0 : r = 0
      · rw [if_pos h0] at hv ⊢; rw [hv]
      · rw [if_neg h0] at hv ⊢; rw [if_pos hv.1, hv.2]
  · intro ho
    by_cases h1 : k = 1
    · subst h1
      rw [objF_one] at ho
      split at ho
      · cases ho
      · next hg => cases ho; left; rw [if_neg hg]; simp
    · by_cases h64 : k < 64
      · unfold objF at ho
        rw [if_neg h1, if_pos h64] at ho
        cases ho
      · obtain ⟨n, r, hr, hk⟩ : ∃ n r : Nat, r < 64 ∧ k = ((64 * n + r : Nat) : Int) := ⟨k.toNat / 64, k.toNat % 64, by omega, by omega⟩
        by_cases hn : n = 1
        · subst hn
          unfold objF at ho
          rw [if_neg h1, if_neg h64, if_pos (by omega)] at ho
          split at ho
          · next hc =>
            cases ho
            right; left
            rw [if_neg hc.2]
            have : k = 64 := by omega
            simp [this]
          · cases ho
        · subst hk
          rw [objF_at hr (by omega)] at ho
          cases hb : byNum E n with
          | none => rw [hb] at ho; cases ho
          | some x =>
            rw [hb] at ho
            have ho : (if r = 0 then some (rowX E x) else if 128 * (r - 1) < x.data.length then some (chunkF x.data (r - 1)) else none) = some v := ho
            obtain ⟨hx, hxn⟩ := byNum_mem hb
            right; right
            refine ⟨_, ⟨x, hx, rfl⟩, (mem_objX (h.data x hx).1).2 ⟨r, hr, by rw [hxn], ?_⟩⟩
            by_cases h0 : r = 0
            · rw [if_pos h0] at ho ⊢; cases ho; rfl
            · rw [if_neg h0] at ho ⊢
              split at ho
              · next hc => cases ho; exact ⟨hc, rfl⟩
              · cases ho
theorem nodup_objX (E : List Nd) (x : Nd) : ((objX E x).map (·.1)).Nodup := by
  unfold objX
  rw [List.map_cons, List.map_map, List.nodup_cons]
  constructor
  · intro hm
    obtain ⟨i, _, hi⟩ := List.mem_map.1 hm
    simp only [Function.comp] at hi
    omega
  · unfold List.Nodup
    rw [List.pairwise_map]
    refine List.Pairwise.imp (fun {a b} hab => ?_) (List.pairwise_lt_range (n := cnt x.data.length))
    simp only [Function.comp]
    omega
theorem nodup_objL {given : Nat} {E : List Nd} (h : WF given E) : (objL given E).Nodup := by
  have h3 : ((E.map (objX E)).flatten).Nodup := by
    unfold List.Nodup
    rw [List.pairwise_flatten]
    constructor
    · intro l hl
      obtain ⟨x, hx, rfl⟩ := List.mem_map.1 hl
      have := nodup_objX E x
      unfold List.Nodup at this
      rw [List.pairwise_map] at this
      exact List.Pairwise.imp (fun {a b} hab e => hab (by rw [e])) this
    · rw [List.pairwise_map]
      refine List.Pairwise.imp_of_mem (fun {a b} ha hb hab => ?_) h.nums
      rintro ⟨k, v⟩ hp ⟨k', v'⟩ hq he
      obtain ⟨r, hr, rfl, _⟩ := (mem_objX (h.data a ha).1).1 hp
      obtain ⟨r', hr', e2, _⟩ := (mem_objX (h.data b hb).1).1 hq
      cases he
      omega
  have hk : ∀ k v, (k, v) ∈ (E.map (objX E)).flatten → 128 ≤ k := by
    intro k v hm
    obtain ⟨l, hl, hm⟩ := List.mem_flatten.1 hm
    obtain ⟨x, hx, rfl⟩ := List.mem_map.1 hl
    obtain ⟨r, hr, rfl, _⟩ := (mem_objX (h.data x hx).1).1 hm
    have := (h.num x hx).1
    omega
  unfold objL
  rw [List.nodup_append]
  refine ⟨by split <;> simp, ?_, ?_⟩
  · rw [List.nodup_append]
    refine ⟨by split <;> simp, h3, ?_⟩
    rintro ⟨k, v⟩ hp ⟨k', v'⟩ hq he
    cases he
    split at hp
    · cases hp
    · have e : (k, v) = (64, rowD (kids E [])) := by simpa using hp
      cases e
      have := hk _ _ hq
      omega
  · rintro ⟨k, v⟩ hp ⟨k', v'⟩ hq he
    cases he
    split at hp
    · cases hp
    · have e : (k, v) = (1, putN 4 (given + 1)) := by simpa using hp
      cases e
      rcases List.mem_append.1 hq with hq | hq
      · split at hq
        · cases hq
        · have e : ((1 : Int), putN 4 (given + 1)) = (64, rowD (kids E [])) := by simp at hq
          have := congrArg Prod.fst e
          simp at this
      · have := hk _ _ hq
        omega
def wL (l : List (Int × List UInt8)) : Nat := (l.map fun p => wF p.2).sum
theorem wL_append (a b : List (Int × List UInt8)) : wL (a ++ b) = wL a + wL b := by unfold wL; rw [List.map_append, List.sum_append]
theorem sumA_wL : ∀ M : List (Int × List UInt8), sumA wF M = wL M
  | [] => rfl
  | p :: t => by
    have := sumA_wL t
    simp only [sumA, wL, List.map_cons, List.sum_cons] at this ⊢
    omega
theorem sortedA_nodup {α : Type} {M : List (Int × α)} (h : SortedA M) : M.Nodup := by
  unfold SortedA at h
  unfold List.Nodup
  exact List.Pairwise.imp (fun {a b} hab e => by rw [e] at hab; omega) h
theorem sim_weight {V : OM} {given : Nat} {E : List Nd} (hs : SortedA V) (h : WF given E) (hv : SimV V given E) : sumA wO V = wL (objL given E) := by
  have e1 : sumA wO V = wL (mapA Ob.val V) := by rw [← sumA_wL, sum_map]; rfl
  rw [e1]
  have hsm := sorted_map Ob.val hs
  have hp : (mapA Ob.val V).Perm (objL given E) := by
    rw [List.perm_ext_iff_of_nodup (sortedA_nodup hsm) (nodup_objL h)]
    rintro ⟨k, v⟩
    rw [mem_objL h, ← hv k]
    unfold valM
    rw [← find_map]
    exact ⟨fun hm => find_of_mem hsm hm, fun hf => find_mem hf⟩
  unfold wL
  exact (hp.map _).sum_nat
end Go.Proofs.YtncdfaocemfgfaaGreatDoor
