/- Walks and lemmas on the program of this seat, used by its statements; each theorem bears its own conditions. -/
import Derived.Test.YteplbljjlbdhaaaGreatDoorZ7
import Derived.Test.YteplbljjlbdhaaaGreatDoorZ24
namespace Go.Proofs.YteplbljjlbdhaaaGreatDoor
open Go.RowKit
set_option linter.unusedVariables false
set_option linter.unusedSimpArgs false
set_option linter.unusedSectionVars false
set_option maxHeartbeats 16000000
set_option maxRecDepth 100000
abbrev Nm := List UInt8
structure Nd where
 path : List Nm
 num : Nat
 dir : Bool
 data : List UInt8
abbrev En := Nm × Nat
abbrev ltB := Go.Op.bytesLess
theorem ltB_irrefl : ∀ a : Nm, ltB a a = false
 | [] => rfl
 | a :: x => by
  show (decide (a < a) || (a == a && ltB x x)) = false
  rw [ltB_irrefl x]
  simp
theorem ltB_trans : ∀ {a b c : Nm}, ltB a b = true → ltB b c = true → ltB a c = true
 | [], [], _, h, _ => by cases h
 | [], _ :: _, [], _, h => by cases h
 | [], _ :: _, _ :: _, _, _ => rfl
 | _ :: _, [], _, h, _ => by cases h
 | _ :: _, _ :: _, [], _, h => by cases h
 | a :: x, b :: y, c :: z, h1, h2 => by
  have e1 : (decide (a < b) || (a == b && ltB x y)) = true := h1
  have e2 : (decide (b < c) || (b == c && ltB y z)) = true := h2
  show (decide (a < c) || (a == c && ltB x z)) = true
  simp only [Bool.or_eq_true, Bool.and_eq_true, decide_eq_true_eq, beq_iff_eq] at e1 e2 ⊢
  rcases e1 with e1 | ⟨rfl, e1⟩
  ·rcases e2 with e2 | ⟨rfl, e2⟩
   ·exact .inl (UInt8.lt_trans e1 e2)
   ·exact .inl e1
  ·rcases e2 with e2 | ⟨rfl, e2⟩
   ·exact .inl e2
   ·exact .inr ⟨rfl, ltB_trans e1 e2⟩
theorem ltB_asymm {a b : Nm} (h : ltB a b = true) : ltB b a = false := by
 cases hb : ltB b a with
 | false => rfl
 | true => have := ltB_trans h hb; rw [ltB_irrefl] at this; cases this
theorem ltB_total : ∀ {a b : Nm}, a ≠ b → ltB a b = true ∨ ltB b a = true
 | [], [], h => absurd rfl h
 | [], _ :: _, _ => .inl rfl
 | _ :: _, [], _ => .inr rfl
 | a :: x, b :: y, h => by
  show (decide (a < b) || (a == b && ltB x y)) = true ∨ (decide (b < a) || (b == a && ltB y x)) = true
  simp only [Bool.or_eq_true, Bool.and_eq_true, decide_eq_true_eq, beq_iff_eq]
  have htri : a < b ∨ a = b ∨ b < a := by
   rcases Nat.lt_trichotomy a.toNat b.toNat with hl | hl | hl
   ·exact .inl hl
   ·exact .inr (.inl (UInt8.toNat_inj.1 hl))
   ·exact .inr (.inr hl)
  rcases htri with hl | rfl | hl
  ·exact .inl (.inl hl)
  ·have hne : x ≠ y := fun e => h (by rw [e])
   rcases ltB_total hne with h1 | h1
   ·exact .inl (.inr ⟨rfl, h1⟩)
   ·exact .inr (.inr ⟨rfl, h1⟩)
  ·exact .inr (.inl hl)
theorem ltB_ne {a b : Nm} (h : ltB a b = true) : a ≠ b := fun e => by rw [e, ltB_irrefl] at h; cases h
def insE : List En → En → List En
 | [], x => [x]
 | y :: t, x => if ltB y.1 x.1 then y :: insE t x else x :: y :: t
abbrev SortE (l : List En) : Prop := l.Pairwise (fun a b => ltB a.1 b.1 = true)
theorem mem_insE (x q : En) : ∀ l : List En, q ∈ insE l x ↔ q = x ∨ q ∈ l
 | [] => by simp [insE]
 | y :: t => by
  unfold insE
  split
  ·rw [List.mem_cons, mem_insE x q t, List.mem_cons]
   constructor
   ·rintro (h | h | h)
    ·exact .inr (.inl h)
    ·exact .inl h
    ·exact .inr (.inr h)
   ·rintro (h | h | h)
    ·exact .inr (.inl h)
    ·exact .inl h
    ·exact .inr (.inr h)
  ·rw [List.mem_cons]
theorem insE_len (x : En) : ∀ l : List En, (insE l x).length = l.length + 1
 | [] => rfl
 | y :: t => by unfold insE; split <;> simp [insE_len x t]
theorem sort_insE {l : List En} (h : SortE l) (x : En) (hn : ∀ y ∈ l, y.1 ≠ x.1) : SortE (insE l x) := by
 induction l with
 | nil => simp [insE, SortE]
 | cons y t ih =>
  obtain ⟨h1, h2⟩ := List.pairwise_cons.1 h
  unfold insE
  split
  ·next hl =>
   refine List.pairwise_cons.2 ⟨fun q hq => ?_, ih h2 (fun z hz => hn z (by simp [hz]))⟩
   rcases (mem_insE x q t).1 hq with rfl | hq
   ·exact hl
   ·exact h1 q hq
  ·next hl =>
   have hlt : ltB x.1 y.1 = true := by
    rcases ltB_total (hn y (by simp)) with h3 | h3
    ·exact absurd h3 hl
    ·exact h3
   refine List.pairwise_cons.2 ⟨fun q hq => ?_, h⟩
   rcases List.mem_cons.1 hq with rfl | hq
   ·exact hlt
   ·exact ltB_trans hlt (h1 q hq)
theorem sortE_ext {a b : List En} (ha : SortE a) (hb : SortE b) (h : ∀ q, q ∈ a ↔ q ∈ b) : a = b := by
 induction a generalizing b with
 | nil =>
  cases b with
  | nil => rfl
  | cons y t => exact absurd ((h y).2 (by simp)) (by simp)
 | cons x s ih =>
  obtain ⟨a1, a2⟩ := List.pairwise_cons.1 ha
  cases b with
  | nil => exact absurd ((h x).1 (by simp)) (by simp)
  | cons y t =>
   obtain ⟨b1, b2⟩ := List.pairwise_cons.1 hb
   have e : x = y := by
    rcases List.mem_cons.1 ((h x).1 (by simp)) with e | hx
    ·exact e
    ·rcases List.mem_cons.1 ((h y).2 (by simp)) with e | hy
     ·exact e.symm
     ·have h1 := b1 x hx
      have h2 := a1 y hy
      rw [ltB_asymm h1] at h2
      cases h2
   subst e
   rw [ih a2 b2 fun q => by
    constructor
    ·intro hq
     rcases List.mem_cons.1 ((h q).1 (by simp [hq])) with rfl | h3
     ·have := a1 q hq; rw [ltB_irrefl] at this; cases this
     ·exact h3
    ·intro hq
     rcases List.mem_cons.1 ((h q).2 (by simp [hq])) with rfl | h3
     ·have := b1 q hq; rw [ltB_irrefl] at this; cases this
     ·exact h3]
def kidOf (p : List Nm) (x : Nd) : Option En := if x.path ≠ [] ∧ x.path.dropLast = p then some (x.path.getLast?.getD [], x.num) else none
def kidsU (E : List Nd) (p : List Nm) : List En := E.filterMap (kidOf p)
def kids (E : List Nd) (p : List Nm) : List En := (kidsU E p).foldl insE []
theorem kidOf_some {p : List Nm} {x : Nd} {q : En} : kidOf p x = some q ↔ x.path = p ++ [q.1] ∧ x.num = q.2 := by
 unfold kidOf
 constructor
 ·intro h
  split at h
  ·next hc =>
   obtain ⟨h1, h2⟩ := hc
   cases h
   refine ⟨?_, rfl⟩
   show x.path = p ++ [x.path.getLast?.getD []]
   rw [List.getLast?_eq_some_getLast h1, ← h2]
   exact (List.dropLast_concat_getLast h1).symm
  ·cases h
 ·rintro ⟨h1, h2⟩
  rw [if_pos ⟨by rw [h1]; simp, by rw [h1]; simp⟩, h1, h2]
  simp
theorem mem_kidsU {E : List Nd} {p : List Nm} {q : En} : q ∈ kidsU E p ↔ ∃ x ∈ E, x.path = p ++ [q.1] ∧ x.num = q.2 := by
 unfold kidsU
 rw [List.mem_filterMap]
 constructor
 ·rintro ⟨x, hx, h⟩; exact ⟨x, hx, kidOf_some.1 h⟩
 ·rintro ⟨x, hx, h⟩; exact ⟨x, hx, kidOf_some.2 h⟩
theorem mem_foldl (l : List En) (q : En) : ∀ acc : List En, q ∈ l.foldl insE acc ↔ q ∈ l ∨ q ∈ acc := by
 induction l with
 | nil => intro acc; simp
 | cons x l ih =>
  intro acc
  show q ∈ l.foldl insE (insE acc x) ↔ _
  rw [ih, mem_insE, List.mem_cons]
  constructor
  ·rintro (h | h | h)
   ·exact .inl (.inr h)
   ·exact .inl (.inl h)
   ·exact .inr h
  ·rintro ((h | h) | h)
   ·exact .inr (.inl h)
   ·exact .inl h
   ·exact .inr (.inr h)
theorem mem_kids {E : List Nd} {p : List Nm} {q : En} : q ∈ kids E p ↔ ∃ x ∈ E, x.path = p ++ [q.1] ∧ x.num = q.2 := by
 unfold kids
 rw [mem_foldl, mem_kidsU]
 simp
def DistP (E : List Nd) : Prop := E.Pairwise (fun a b => a.path ≠ b.path)
theorem distP_eq {E : List Nd} (h : DistP E) {a b : Nd} (ha : a ∈ E) (hb : b ∈ E) (e : a.path = b.path) : a = b := by
 induction E with
 | nil => cases ha
 | cons x t ih =>
  obtain ⟨h1, h2⟩ := List.pairwise_cons.1 h
  rcases List.mem_cons.1 ha with ea | ha2
  ·rcases List.mem_cons.1 hb with eb | hb2
   ·rw [ea, eb]
   ·rw [ea] at e; exact absurd e (h1 b hb2)
  ·rcases List.mem_cons.1 hb with eb | hb2
   ·rw [eb] at e; exact absurd e.symm (h1 a ha2)
   ·exact ih h2 ha2 hb2
theorem sort_foldl (l : List En) : ∀ acc : List En, SortE acc → (l.Pairwise fun a b => a.1 ≠ b.1) → (∀ x ∈ l, ∀ y ∈ acc, y.1 ≠ x.1) → SortE (l.foldl insE acc) := by
 induction l with
 | nil => intro acc h _ _; exact h
 | cons x l ih =>
  intro acc h hp hx
  obtain ⟨h1, h2⟩ := List.pairwise_cons.1 hp
  refine ih _ (sort_insE h x (hx x (by simp))) h2 (fun z hz y hy => ?_)
  rcases (mem_insE x y acc).1 hy with rfl | hy
  ·exact h1 z hz
  ·exact hx z (by simp [hz]) y hy
theorem sort_kids {E : List Nd} (h : DistP E) (p : List Nm) : SortE (kids E p) := by
 refine sort_foldl _ [] List.Pairwise.nil ?_ (by simp)
 unfold kidsU
 rw [List.pairwise_filterMap]
 refine List.Pairwise.imp (fun {a b} hab => ?_) h
 intro q hq q2 hq2 he
 have e1 := (kidOf_some.1 hq).1
 have e2 := (kidOf_some.1 hq2).1
 exact hab (by rw [e1, e2, he])
theorem kids_is {E : List Nd} (h : DistP E) {p : List Nm} {l : List En} (hl : SortE l) (hm : ∀ q, q ∈ l ↔ ∃ x ∈ E, x.path = p ++ [q.1] ∧ x.num = q.2) : kids E p = l :=
 sortE_ext (sort_kids h p) hl (fun q => by rw [mem_kids, hm])
def ent (E : List Nd) (p : List Nm) : Option Nd := E.find? fun x => decide (x.path = p)
def byNum (E : List Nd) (k : Nat) : Option Nd := E.find? fun x => decide (x.num = k)
theorem ent_mem {E : List Nd} {p : List Nm} {x : Nd} (h : ent E p = some x) : x ∈ E ∧ x.path = p :=
 ⟨List.mem_of_find?_eq_some h, by have := List.find?_some h; simpa using this⟩
theorem ent_none {E : List Nd} {p : List Nm} (h : ent E p = none) : ∀ x ∈ E, x.path ≠ p := by
 unfold ent at h
 rw [List.find?_eq_none] at h
 intro x hx
 simpa using h x hx
theorem ent_of {E : List Nd} (hd : DistP E) {x : Nd} (hx : x ∈ E) : ent E x.path = some x := by
 cases h : ent E x.path with
 | none => exact absurd rfl (ent_none h x hx)
 | some y =>
  obtain ⟨h1, h2⟩ := ent_mem h
  rw [distP_eq hd h1 hx h2]
structure WF (given : Nat) (E : List Nd) : Prop where
 paths : DistP E
 nums : E.Pairwise (fun a b => a.num ≠ b.num)
 num : ∀ x ∈ E, 2 ≤ x.num ∧ x.num ≤ given + 1
 form : ∀ x ∈ E, x.path ≠ [] ∧ x.path.length ≤ 8 ∧ x.path.all WX.nameB = true
 up : ∀ x ∈ E, x.path.dropLast = [] ∨ ∃ y ∈ E, y.path = x.path.dropLast ∧ y.dir = true
 few : ∀ p, (kids E p).length ≤ 6
 data : ∀ x ∈ E, x.data.length ≤ 4096 ∧ (x.dir = true → x.data = [])
theorem num_eq {E : List Nd} (h : E.Pairwise (fun a b => a.num ≠ b.num)) {a b : Nd} (ha : a ∈ E) (hb : b ∈ E) (e : a.num = b.num) : a = b := by
 induction E with
 | nil => cases ha
 | cons x t ih =>
  obtain ⟨h1, h2⟩ := List.pairwise_cons.1 h
  rcases List.mem_cons.1 ha with ea | ha2
  ·rcases List.mem_cons.1 hb with eb | hb2
   ·rw [ea, eb]
   ·rw [ea] at e; exact absurd e (h1 b hb2)
  ·rcases List.mem_cons.1 hb with eb | hb2
   ·rw [eb] at e; exact absurd e.symm (h1 a ha2)
   ·exact ih h2 ha2 hb2
theorem byNum_mem {E : List Nd} {k : Nat} {x : Nd} (h : byNum E k = some x) : x ∈ E ∧ x.num = k :=
 ⟨List.mem_of_find?_eq_some h, by have := List.find?_some h; simpa using this⟩
theorem byNum_none {E : List Nd} {k : Nat} (h : byNum E k = none) : ∀ x ∈ E, x.num ≠ k := by
 unfold byNum at h
 rw [List.find?_eq_none] at h
 intro x hx
 simpa using h x hx
theorem byNum_of {E : List Nd} (hn : E.Pairwise (fun a b => a.num ≠ b.num)) {x : Nd} (hx : x ∈ E) : byNum E x.num = some x := by
 cases h : byNum E x.num with
 | none => exact absurd rfl (byNum_none h x hx)
 | some y =>
  obtain ⟨h1, h2⟩ := byNum_mem h
  rw [num_eq hn h1 hx h2]
def isDirP (E : List Nd) (p : List Nm) : Bool := decide (p = []) || (match ent E p with | some x => x.dir | none => false)
def numP (E : List Nd) (p : List Nm) : Nat := if p = [] then 1 else match ent E p with | some x => x.num | none => 0
def enB (x : En) : List UInt8 := UInt8.ofNat x.1.length :: (x.1 ++ putN 4 x.2)
def rowD (k : List En) : List UInt8 := 1 :: (k.map enB).flatten
def rowF (n : Nat) : List UInt8 := 0 :: putN 2 n
def chunkF (d : List UInt8) (i : Nat) : List UInt8 := (d.drop (128 * i)).take 128
def rowX (E : List Nd) (x : Nd) : List UInt8 := if x.dir then rowD (kids E x.path) else rowF x.data.length
def objF (given : Nat) (E : List Nd) (k : Int) : Option (List UInt8) :=
 if k = 1 then (if given = 0 then none else some (putN 4 (given + 1)))
 else if k < 64 then none
 else if k.toNat / 64 = 1 then (if k.toNat % 64 = 0 ∧ kids E [] ≠ [] then some (rowD (kids E [])) else none)
 else match byNum E (k.toNat / 64) with
  | none => none
  | some x => if k.toNat % 64 = 0 then some (rowX E x) else if 128 * (k.toNat % 64 - 1) < x.data.length then some (chunkF x.data (k.toNat % 64 - 1)) else none
def SimV (V : OM) (given : Nat) (E : List Nd) : Prop := ∀ k, valM V k = objF given E k
def cnt (n : Nat) : Nat := (n + 127) / 128
def objX (E : List Nd) (x : Nd) : List (Int × List UInt8) := (((64 * x.num : Nat) : Int), rowX E x) :: (List.range (cnt x.data.length)).map fun i => (((64 * x.num + 1 + i : Nat) : Int), chunkF x.data i)
def objL (given : Nat) (E : List Nd) : List (Int × List UInt8) :=
 (if given = 0 then [] else [(1, putN 4 (given + 1))]) ++ ((if kids E [] = [] then [] else [(64, rowD (kids E []))]) ++ (E.map (objX E)).flatten)
theorem mem_objX {E : List Nd} {x : Nd} {k : Int} {v : List UInt8} (hd : x.data.length ≤ 4096) : (k, v) ∈ objX E x ↔ ∃ r : Nat, r < 64 ∧ k = ((64 * x.num + r : Nat) : Int) ∧ (if r = 0 then v = rowX E x else 128 * (r - 1) < x.data.length ∧ v = chunkF x.data (r - 1)) := by
 unfold objX
 rw [List.mem_cons, List.mem_map]
 constructor
 ·rintro (h | ⟨i, hi, h⟩)
  ·cases h
   exact ⟨0, by omega, rfl, rfl⟩
  ·cases h
   rw [List.mem_range] at hi
   unfold cnt at hi
   refine ⟨i + 1, by omega, by omega, ?_⟩
   rw [if_neg (by omega), Nat.add_sub_cancel]
   exact ⟨by omega, rfl⟩
 ·rintro ⟨r, hr, rfl, h⟩
  by_cases h0 : r = 0
  ·subst h0
   rw [if_pos rfl] at h
   exact .inl (by rw [h]; rfl)
  ·rw [if_neg h0] at h
   refine .inr ⟨r - 1, ?_, ?_⟩
   ·rw [List.mem_range]; unfold cnt; omega
   ·rw [h.2]
    congr 1
    omega
theorem objF_at {given : Nat} {E : List Nd} {n r : Nat} (hr : r < 64) (hn : 2 ≤ n) : objF given E ((64 * n + r : Nat) : Int) = match byNum E n with
  | none => none
  | some x => if r = 0 then some (rowX E x) else if 128 * (r - 1) < x.data.length then some (chunkF x.data (r - 1)) else none := by
 have h1 : (((64 * n + r : Nat) : Int)).toNat / 64 = n := by omega
 have h2 : (((64 * n + r : Nat) : Int)).toNat % 64 = r := by omega
 unfold objF
 rw [if_neg (by omega), if_neg (by omega), h1, h2, if_neg (by omega)]
theorem objF_root {given : Nat} {E : List Nd} : objF given E 64 = if kids E [] ≠ [] then some (rowD (kids E [])) else none := by
 unfold objF
 rw [if_neg (by decide), if_neg (by decide), if_pos (by decide)]
 by_cases h : kids E [] = []
 ·rw [if_neg (by intro q; exact q.2 h), if_neg (by simpa using h)]
 ·rw [if_pos ⟨by decide, h⟩, if_pos h]
theorem objF_one {given : Nat} {E : List Nd} : objF given E 1 = if given = 0 then none else some (putN 4 (given + 1)) := by unfold objF; rw [if_pos rfl]
theorem mem_objL {given : Nat} {E : List Nd} (h : WF given E) (k : Int) (v : List UInt8) : (k, v) ∈ objL given E ↔ objF given E k = some v := by
 unfold objL
 simp only [List.mem_append, List.mem_flatten, List.mem_map]
 constructor
 ·rintro (hm | hm | ⟨l, ⟨x, hx, rfl⟩, hm⟩)
  ·split at hm
   ·cases hm
   ·next hg =>
    have e : (k, v) = (1, putN 4 (given + 1)) := by simpa using hm
    cases e
    rw [objF_one, if_neg hg]
  ·split at hm
   ·cases hm
   ·next hg =>
    have e : (k, v) = (64, rowD (kids E [])) := by simpa using hm
    cases e
    rw [objF_root, if_pos hg]
  ·obtain ⟨r, hr, rfl, hv⟩ := (mem_objX (h.data x hx).1).1 hm
   rw [objF_at hr (h.num x hx).1, byNum_of h.nums hx]
   show (if r = 0 then some (rowX E x) else _) = some v
   by_cases h0 : r = 0
   ·rw [if_pos h0] at hv ⊢; rw [hv]
   ·rw [if_neg h0] at hv ⊢; rw [if_pos hv.1, hv.2]
 ·intro ho
  by_cases h1 : k = 1
  ·subst h1
   rw [objF_one] at ho
   split at ho
   ·cases ho
   ·next hg => cases ho; left; rw [if_neg hg]; simp
  ·by_cases h64 : k < 64
   ·unfold objF at ho
    rw [if_neg h1, if_pos h64] at ho
    cases ho
   ·obtain ⟨n, r, hr, hk⟩ : ∃ n r : Nat, r < 64 ∧ k = ((64 * n + r : Nat) : Int) := ⟨k.toNat / 64, k.toNat % 64, by omega, by omega⟩
    by_cases hn : n = 1
    ·subst hn
     unfold objF at ho
     rw [if_neg h1, if_neg h64, if_pos (by omega)] at ho
     split at ho
     ·next hc =>
      cases ho
      right; left
      rw [if_neg hc.2]
      have : k = 64 := by omega
      simp [this]
     ·cases ho
    ·subst hk
     rw [objF_at hr (by omega)] at ho
     cases hb : byNum E n with
     | none => rw [hb] at ho; cases ho
     | some x =>
      rw [hb] at ho
      have ho : (if r = 0 then some (rowX E x) else if 128 * (r - 1) < x.data.length then some (chunkF x.data (r - 1)) else none) = some v := ho
      obtain ⟨hx, hxn⟩ := byNum_mem hb
      right; right
      refine ⟨_, ⟨x, hx, rfl⟩, (mem_objX (h.data x hx).1).2 ⟨r, hr, by rw [hxn], ?_⟩⟩
      by_cases h0 : r = 0
      ·rw [if_pos h0] at ho ⊢; cases ho; rfl
      ·rw [if_neg h0] at ho ⊢
       split at ho
       ·next hc => cases ho; exact ⟨hc, rfl⟩
       ·cases ho
theorem nodup_objX (E : List Nd) (x : Nd) : ((objX E x).map (·.1)).Nodup := by
 unfold objX
 rw [List.map_cons, List.map_map, List.nodup_cons]
 constructor
 ·intro hm
  obtain ⟨i, _, hi⟩ := List.mem_map.1 hm
  simp only [Function.comp] at hi
  omega
 ·unfold List.Nodup
  rw [List.pairwise_map]
  refine List.Pairwise.imp (fun {a b} hab => ?_) (List.pairwise_lt_range (n := cnt x.data.length))
  simp only [Function.comp]
  omega
theorem nodup_objL {given : Nat} {E : List Nd} (h : WF given E) : (objL given E).Nodup := by
 have h3 : ((E.map (objX E)).flatten).Nodup := by
  unfold List.Nodup
  rw [List.pairwise_flatten]
  constructor
  ·intro l hl
   obtain ⟨x, hx, rfl⟩ := List.mem_map.1 hl
   have := nodup_objX E x
   unfold List.Nodup at this
   rw [List.pairwise_map] at this
   exact List.Pairwise.imp (fun {a b} hab e => hab (by rw [e])) this
  ·rw [List.pairwise_map]
   refine List.Pairwise.imp_of_mem (fun {a b} ha hb hab => ?_) h.nums
   rintro ⟨k, v⟩ hp ⟨k', v'⟩ hq he
   obtain ⟨r, hr, rfl, _⟩ := (mem_objX (h.data a ha).1).1 hp
   obtain ⟨r', hr', e2, _⟩ := (mem_objX (h.data b hb).1).1 hq
   cases he
   omega
 have hk : ∀ k v, (k, v) ∈ (E.map (objX E)).flatten → 128 ≤ k := by
  intro k v hm
  obtain ⟨l, hl, hm⟩ := List.mem_flatten.1 hm
  obtain ⟨x, hx, rfl⟩ := List.mem_map.1 hl
  obtain ⟨r, hr, rfl, _⟩ := (mem_objX (h.data x hx).1).1 hm
  have := (h.num x hx).1
  omega
 unfold objL
 rw [List.nodup_append]
 refine ⟨by split <;> simp, ?_, ?_⟩
 ·rw [List.nodup_append]
  refine ⟨by split <;> simp, h3, ?_⟩
  rintro ⟨k, v⟩ hp ⟨k', v'⟩ hq he
  cases he
  split at hp
  ·cases hp
  ·have e : (k, v) = (64, rowD (kids E [])) := by simpa using hp
   cases e
   have := hk _ _ hq
   omega
 ·rintro ⟨k, v⟩ hp ⟨k', v'⟩ hq he
  cases he
  split at hp
  ·cases hp
  ·have e : (k, v) = (1, putN 4 (given + 1)) := by simpa using hp
   cases e
   rcases List.mem_append.1 hq with hq | hq
   ·split at hq
    ·cases hq
    ·have e : ((1 : Int), putN 4 (given + 1)) = (64, rowD (kids E [])) := by simp at hq
     have := congrArg Prod.fst e
     simp at this
   ·have := hk _ _ hq
    omega
def wL (l : List (Int × List UInt8)) : Nat := (l.map fun p => wF p.2).sum
theorem wL_append (a b : List (Int × List UInt8)) : wL (a ++ b) = wL a + wL b := by unfold wL; rw [List.map_append, List.sum_append]
theorem sumA_wL : ∀ M : List (Int × List UInt8), sumA wF M = wL M
 | [] => rfl
 | p :: t => by
  have := sumA_wL t
  simp only [sumA, wL, List.map_cons, List.sum_cons] at this ⊢
  omega
theorem sortedA_nodup {α : Type} {M : List (Int × α)} (h : SortedA M) : M.Nodup := by
 unfold SortedA at h
 unfold List.Nodup
 exact List.Pairwise.imp (fun {a b} hab e => by rw [e] at hab; omega) h
theorem sim_weight {V : OM} {given : Nat} {E : List Nd} (hs : SortedA V) (h : WF given E) (hv : SimV V given E) : sumA wO V = wL (objL given E) := by
 have e1 : sumA wO V = wL (mapA Ob.val V) := by rw [← sumA_wL, sum_map]; rfl
 rw [e1]
 have hsm := sorted_map Ob.val hs
 have hp : (mapA Ob.val V).Perm (objL given E) := by
  rw [List.perm_ext_iff_of_nodup (sortedA_nodup hsm) (nodup_objL h)]
  rintro ⟨k, v⟩
  rw [mem_objL h, ← hv k]
  unfold valM
  rw [← find_map]
  exact ⟨fun hm => find_of_mem hsm hm, fun hf => find_mem hf⟩
 unfold wL
 exact (hp.map _).sum_nat
def enCells (l : List En) : List Value := l.flatMap fun x => [S x.1, I x.2]
theorem enCells_len (l : List En) : (enCells l).length = l.length * 2 := by
 induction l with
 | nil => rfl
 | cons s l ih => simp only [enCells, List.flatMap_cons, List.length_append, List.length_cons, List.length_nil] at ih ⊢; omega
def EnsAt (w : World) (v : Value) (l : List En) : Prop := ∃ p c b, v = .slice p l.length c ∧ l.length ≤ c ∧ (l ≠ [] → p = some ⟨b, 0, none⟩) ∧
 ∀ (i : Nat) (hi : i < l.length), w.cell? ⟨b, i * 2, none⟩ = some (S l[i].1) ∧ w.cell? ⟨b, i * 2 + 1, none⟩ = some (I l[i].2)
theorem EnsAt.same {w w' : World} {v : Value} {l : List En} (h : EnsAt w v l) (k : Kept [] w w') : EnsAt w' v l := by
 obtain ⟨p, c, b, e, h0, h1, h2⟩ := h
 exact ⟨p, c, b, e, h0, h1, fun i hi => ⟨k.cellOf (h2 i hi).1, k.cellOf (h2 i hi).2⟩⟩
theorem EnsAt.nil (w : World) : EnsAt w (.slice none 0 0) [] := ⟨none, 0, 0, rfl, Nat.le_refl _, fun h => absurd rfl h, fun i hi => by simp at hi⟩
def cmpF (a b : Nm) : Int := if ltB a b then -1 else if ltB b a then 1 else 0
theorem cmpF_neg {a b : Nm} : cmpF a b < 0 ↔ ltB a b = true := by
 unfold cmpF
 split
 ·next h => simp [h]
 ·next h =>
  split
  ·simp [h]
  ·simp [h]
theorem cmpF_zero {a b : Nm} : cmpF a b = 0 ↔ a = b := by
 unfold cmpF
 constructor
 ·intro h
  apply Decidable.byContradiction
  intro hne
  rcases ltB_total hne with h1 | h1
  ·rw [if_pos h1] at h; cases h
  ·rw [if_neg (by rw [ltB_asymm h1]; decide), if_pos h1] at h; cases h
 ·rintro rfl
  rw [if_neg (by rw [ltB_irrefl]; decide), if_neg (by rw [ltB_irrefl]; decide)]
theorem isNaN_str (a : Nm) (w : World) : Calls Tryz.prog 123 #[S a] w fun e w' => e = .returned (.bool false) ∧ w' = w := by
 go_enter Tryz.func123, Tryz.ntmps123
 go_wp2_with (fail)
 go_ret
 exact ⟨by simp, rfl⟩
theorem compare_str (a b : Nm) (w : World) : Calls Tryz.prog 92 #[S a, S b] w fun e w' => e = .returned (I (cmpF a b)) ∧ w' = w := by
 have HN := Lib.hid (fun x => isNaN_str x w)
 go_enter Tryz.func92, Tryz.ntmps92
 go_wp2_with (fail)
 refine (HN.out a).mono ?_
 rintro e w1 ⟨rfl, rfl⟩
 go_wp2_with (fail)
 refine (HN.out b).mono ?_
 rintro e w2 ⟨rfl, rfl⟩
 go_wp2_with (fail)
 all_goals go_ret
 ·exact ⟨ret_I (by unfold cmpF; rw [if_pos (by assumption)]), rfl⟩
 ·have h1 : ltB a b = false := by assumption
  have h2 : (!a == b) = true := by assumption
  refine ⟨ret_I ?_, rfl⟩
  unfold cmpF
  rw [if_neg (by rw [h1]; decide)]
  rcases ltB_total (a := a) (b := b) (by simpa using h2) with h3 | h3
  ·rw [h1] at h3; cases h3
  ·rw [if_pos h3]
 ·have h2 : (!a == b) = false := by assumption
  have e : a = b := by simpa using h2
  exact ⟨ret_I (cmpF_zero.2 e).symm, rfl⟩
def posE : List En → Nm → Nat
 | [], _ => 0
 | y :: r, t => if ltB y.1 t then posE r t + 1 else 0
def hasE (k : List En) (t : Nm) : Bool := k.any fun x => x.1 == t
theorem posE_le (t : Nm) : ∀ k : List En, posE k t ≤ k.length
 | [] => Nat.le_refl _
 | y :: r => by unfold posE; have := posE_le t r; split <;> simp <;> omega
theorem posE_lt {k : List En} {t : Nm} : ∀ (j : Nat) (hj : j < k.length), j < posE k t → ltB k[j].1 t = true := by
 induction k with
 | nil => intro j hj; simp at hj
 | cons y r ih =>
  intro j hj h
  unfold posE at h
  split at h
  ·next hl =>
   cases j with
   | zero => exact hl
   | succ j => exact ih j (by simpa using hj) (by omega)
  ·omega
theorem posE_ge {k : List En} (hs : SortE k) {t : Nm} : ∀ (j : Nat) (hj : j < k.length), posE k t ≤ j → ltB k[j].1 t = false := by
 induction k with
 | nil => intro j hj; simp at hj
 | cons y r ih =>
  intro j hj h
  obtain ⟨h1, h2⟩ := List.pairwise_cons.1 hs
  unfold posE at h
  split at h
  ·next hl =>
   cases j with
   | zero => omega
   | succ j => exact ih h2 j (by simpa using hj) (by omega)
  ·next hl =>
   cases j with
   | zero => simpa using hl
   | succ j =>
    have hjr : j < r.length := by simpa using hj
    show ltB r[j].1 t = false
    cases hb : ltB r[j].1 t with
    | false => rfl
    | true => exact absurd (ltB_trans (h1 _ (List.getElem_mem hjr)) hb) hl
theorem posE_is {k : List En} (hs : SortE k) {t : Nm} {i : Nat} (hi : i ≤ k.length) (h1 : ∀ (j : Nat) (hj : j < k.length), j < i → ltB k[j].1 t = true) (h2 : ∀ (j : Nat) (hj : j < k.length), i ≤ j → ltB k[j].1 t = false) : i = posE k t := by
 have hp := posE_le t k
 rcases Nat.lt_trichotomy i (posE k t) with h | h | h
 ·have a := h2 i (by omega) (Nat.le_refl _)
  rw [posE_lt i (by omega) h] at a
  cases a
 ·exact h
 ·have a := h1 (posE k t) (by omega) h
  rw [posE_ge hs (posE k t) (by omega) (Nat.le_refl _)] at a
  cases a
theorem hasE_pos {k : List En} (hs : SortE k) {t : Nm} : hasE k t = match k[posE k t]? with | some x => decide (x.1 = t) | none => false := by
 rw [Bool.eq_iff_iff]
 unfold hasE
 rw [List.any_eq_true]
 constructor
 ·rintro ⟨x, hx, he⟩
  have he : x.1 = t := by simpa using he
  obtain ⟨i, hi, hxi⟩ := List.getElem_of_mem hx
  have : i = posE k t := posE_is hs (by omega) (fun j hj hji => by
   rw [← he, ← hxi]
   exact (List.pairwise_iff_getElem.1 hs) j i hj hi hji) (fun j hj hji => by
   rw [← he, ← hxi]
   rcases Nat.lt_or_ge i j with h | h
   ·exact ltB_asymm ((List.pairwise_iff_getElem.1 hs) i j hi hj h)
   ·have : j = i := by omega
    subst this
    exact ltB_irrefl _)
  rw [← this, List.getElem?_eq_getElem hi, hxi]
  simpa using he
 ·intro h
  cases hk : k[posE k t]? with
  | none => rw [hk] at h; cases h
  | some x =>
   rw [hk] at h
   exact ⟨x, List.mem_of_getElem? hk, by simpa using h⟩
theorem closure_str (nm t : Nm) (num : Nat) (w : World) : Calls Tryz.prog 91 #[.agg #[S nm, I num], S t] w fun e w' => e = .returned (I (cmpF nm t)) ∧ w' = w.alloc (.cells #[S nm, I num] 113) := by
 have HC := Lib.hid (fun W => compare_str nm t W)
 go_enter Tryz.func91, Tryz.ntmps91
 go_wp2_with (fail)
 refine (HC.out _).mono ?_
 rintro e w1 ⟨rfl, rfl⟩
 go_wp2_with (fail)
 go_ret
 exact ⟨rfl, rfl⟩
theorem bsearch_any (w : World) (v : Value) (k : List En) (hv : EnsAt w v k) (hs : SortE k) (hk : k.length ≤ 1000) (t : Nm) :
  Calls Tryz.prog 90 #[v, S t, .func (.func 91) #[] #[]] w fun e w' => e = .returned (.tuple #[I (posE k t), .bool (hasE k t)]) ∧ Kept [] w w' := by
 obtain ⟨p, c, b, rfl, hc, hp, hcl⟩ := hv
 have HH := Lib.hid (hasE_pos hs (t := t))
 have HC := Lib.hid (And.intro hp hcl)
 have HS := Lib.hid hs
 have HCL := Lib.hid (fun W nm (num : Nat) => closure_str nm t num W)
 have hkI : (k.length : Int) ≤ 1000 := by omega
 clear hp hcl hs hc
 go_enter Tryz.func90, Tryz.ntmps90
 go_wp2_with (fail)
 go_loopw [9, 10] (fun v9 v10 wr => ∃ (i j : Nat), v9 = I i ∧ v10 = I j ∧ i ≤ j ∧ j ≤ k.length ∧ (∀ (a : Nat) (ha : a < k.length), a < i → ltB k[a].1 t = true) ∧ (∀ (a : Nat) (ha : a < k.length), j ≤ a → ltB k[a].1 t = false) ∧ Kept [] w wr) (fun v9 v10 _ => (intOf v10).toNat - (intOf v9).toNat)
 case atStart => exact ⟨0, k.length, rfl, rfl, by omega, Nat.le_refl _, fun a _ h => by omega, fun a ha h => by omega, Kept.refl _ _⟩
 case round =>
  obtain ⟨i, j, rfl, rfl, hij, hj, h1, h2, kr⟩ := hrel
  have HR := Lib.hid (And.intro h1 (And.intro h2 kr))
  clear h1 h2 kr
  have hjI : (j : Int) ≤ k.length := by omega
  by_cases hlt : i < j
  ·have hltI : (i : Int) < j := by omega
   obtain ⟨m, hm⟩ : ∃ m : Nat, (i + j) / 2 = m := ⟨_, rfl⟩
   have hmI : ((i : Int) + j) / 2 = (m : Int) := by omega
   have hml : m < k.length := by omega
   have hmlI : (m : Int) < k.length := by omega
   obtain ⟨hp, hcl⟩ := HC.out
   have hpe := hp (by intro h; rw [h] at hml; simp at hml)
   subst hpe
   obtain ⟨d0, d1⟩ := hcl m hml
   have e0 := HR.out.2.2.cellOf d0
   have e1 := HR.out.2.2.cellOf d1
   obtain ⟨⟨nm, num⟩, hx⟩ : ∃ x, k[m] = x := ⟨_, rfl⟩
   rw [hx] at e0 e1
   simp only at e0 e1
   have HX := Lib.hid (And.intro hx (And.intro hm (And.intro hml hmI)))
   have hm0 : (0 : Int) ≤ m := by omega
   have hmle : (m : Int) ≤ 1000 := by omega
   have k2 := HR.out.2.2.alloc (Obj.cells #[S nm, I num] 113)
   have K2 := Lib.hid k2
   clear hp hcl d0 d1 hx hm k2
   by_cases hcmp : cmpF nm t < 0
   ·have HCM := Lib.hid (cmpF_neg.1 hcmp)
    go_wp2_with (fail)
    refine (HCL.out _ nm num).mono ?_
    rintro e w1 ⟨rfl, rfl⟩
    go_wp2_with (fail)
    go_roundw
    case rel =>
     obtain ⟨h1, h2, kr⟩ := HR.out
     obtain ⟨hx, hm, hml, hmI⟩ := HX.out
     refine ⟨m + 1, j, by go_num, rfl, by omega, hj, fun a ha h => ?_, h2, K2.out⟩
     by_cases ha2 : a = m
     ·subst ha2; rw [hx]; exact HCM.out
     ·cases hb : ltB k[a].1 t with
      | true => rfl
      | false =>
       have := (List.pairwise_iff_getElem.1 HS.out) a m ha hml (by omega)
       rw [hx] at this
       rw [ltB_trans this HCM.out] at hb
       cases hb
    case measure =>
     obtain ⟨hx, hm, hml, hmI⟩ := HX.out
     simp [intOf]; omega
   ·have HCM : Hid (ltB nm t = false) := Lib.hid (by
     cases hb : ltB nm t with
     | false => rfl
     | true => exact absurd (cmpF_neg.2 hb) hcmp)
    have hcd : decide (cmpF nm t < 0) = false := decide_eq_false hcmp
    go_wp2_with (fail)
    refine (HCL.out _ nm num).mono ?_
    rintro e w1 ⟨rfl, rfl⟩
    go_wp2_with (fail)
    go_roundw
    case rel =>
     obtain ⟨h1, h2, kr⟩ := HR.out
     obtain ⟨hx, hm, hml, hmI⟩ := HX.out
     refine ⟨i, m, rfl, rfl, by omega, by omega, h1, fun a ha h => ?_, K2.out⟩
     by_cases ha2 : a = m
     ·subst ha2; rw [hx]; exact HCM.out
     ·have := (List.pairwise_iff_getElem.1 HS.out) m a hml ha (by omega)
      rw [hx] at this
      cases hb : ltB k[a].1 t with
      | false => rfl
      | true => rw [ltB_trans this hb] at HCM; have := HCM.out; cases this
    case measure =>
     obtain ⟨hx, hm, hml, hmI⟩ := HX.out
     simp [intOf]; omega
  ·have hltI : ¬ (i : Int) < j := by omega
   have hij2 : i = j := by omega
   subst hij2
   have hpos : i = posE k t := posE_is HS.out hj HR.out.1 HR.out.2.1
   by_cases hil : i < k.length
   ·have hilI : (i : Int) < k.length := by omega
    obtain ⟨hp, hcl⟩ := HC.out
    have hpe := hp (by intro h; rw [h] at hil; simp at hil)
    subst hpe
    obtain ⟨d0, d1⟩ := hcl i hil
    have e0 := HR.out.2.2.cellOf d0
    have e1 := HR.out.2.2.cellOf d1
    obtain ⟨⟨nm, num⟩, hx⟩ : ∃ x, k[i] = x := ⟨_, rfl⟩
    rw [hx] at e0 e1
    simp only at e0 e1
    have HE : Hid (hasE k t = decide (nm = t)) := Lib.hid (by
     rw [HH.out, ← hpos, List.getElem?_eq_getElem hil, hx])
    have HPOS := Lib.hid hpos
    have K2 := Lib.hid (HR.out.2.2.alloc (Obj.cells #[S nm, I num] 113))
    have hi0 : (0 : Int) ≤ i := by omega
    clear hp hcl d0 d1 hx hpos hil
    have HQ : Hid ((cmpF nm t == 0) = decide (nm = t)) := Lib.hid (by
     rw [Bool.eq_iff_iff]
     simp only [beq_iff_eq, decide_eq_true_eq]
     exact cmpF_zero)
    go_wp2_with (fail)
    refine (HCL.out _ nm num).mono ?_
    rintro e w1 ⟨rfl, rfl⟩
    go_wp2_with (fail)
    go_ret2
    exact ⟨by rw [← HPOS.out, HE.out, ← HQ.out]; rfl, K2.out⟩
   ·have hilI : ¬ (i : Int) < k.length := by omega
    have HE : Hid (hasE k t = false) := Lib.hid (by
     rw [HH.out, ← hpos, List.getElem?_eq_none (by omega)])
    have HPOS := Lib.hid hpos
    clear hpos
    go_wp2_with (fail)
    go_ret2
    exact ⟨by rw [← HPOS.out, HE.out]; rfl, HR.out.2.2⟩
theorem entered_any (w : World) (v : Value) (k : List En) (hv : EnsAt w v k) (hs : SortE k) (hk : k.length ≤ 1000) (t : Nm) :
  Calls Tryz.prog 57 #[v, S t] w fun e w' => e = .returned (.tuple #[I (posE k t), .bool (hasE k t)]) ∧ Kept [] w w' := by
 have HB := Lib.hid (bsearch_any w v k hv hs hk t)
 obtain ⟨p, c, b, rfl, _⟩ := hv
 clear hs hk
 go_enter Tryz.func57, Tryz.ntmps57
 go_wp2_with (fail)
 refine HB.out.mono ?_
 rintro e w1 ⟨rfl, k1⟩
 have K1 := Lib.hid k1
 clear k1
 go_wp2_with (fail)
 go_ret2
 exact ⟨rfl, K1.out⟩
end Go.Proofs.YteplbljjlbdhaaaGreatDoor
