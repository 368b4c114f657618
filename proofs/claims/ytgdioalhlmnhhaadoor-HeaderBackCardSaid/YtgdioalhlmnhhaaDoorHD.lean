/- Walks and lemmas on the program of this seat, used by its statements; each theorem bears its own conditions. -/
import Derived.Test.YtgdioalhlmnhhaaDoorHC
import Derived.Handy
import Derived.Deep.CutRange
import Derived.Lib.BufferWrite
import Derived.Lib.ItoaNum
namespace Go.Proofs.YtgdioalhlmnhhaaDoor
open Go.RowKit
set_option linter.unusedVariables false
set_option linter.unusedSimpArgs false
/-! ### What is told of a head -/
def nameOk (s : List UInt8) : Prop := s ≠ [] ∧ ∀ c ∈ s, ¬ (65 ≤ c.toNat ∧ c.toNat ≤ 90) ∧ 32 < c.toNat ∧ c.toNat < 127 ∧ c ≠ 58
def valOk (s : List UInt8) : Prop := s ≠ [] → byteAt s 0 ≠ 32 ∧ byteAt s 0 ≠ 9 ∧ byteAt s (s.length - 1) ≠ 32 ∧ byteAt s (s.length - 1) ≠ 9
set_option maxRecDepth 100000 in
theorem tok_low_all : ∀ n, n < 256 → tokC (UInt8.ofNat n) = true → (¬ (65 ≤ (lowC (UInt8.ofNat n)).toNat ∧ (lowC (UInt8.ofNat n)).toNat ≤ 90) ∧ 32 < (lowC (UInt8.ofNat n)).toNat ∧ (lowC (UInt8.ofNat n)).toNat < 127 ∧ lowC (UInt8.ofNat n) ≠ 58) := by decide
theorem tok_low (c : UInt8) (h : tokC c = true) : ¬ (65 ≤ (lowC c).toNat ∧ (lowC c).toNat ≤ 90) ∧ 32 < (lowC c).toNat ∧ (lowC c).toNat < 127 ∧ lowC c ≠ 58 := by
  have := tok_low_all c.toNat c.toNat_lt
  rw [UInt8.ofNat_toNat] at this
  exact this h
theorem tok_nameOk (s : List UInt8) (h : tokB s = true) : nameOk (lowL s) := by
  simp only [tokB, Bool.and_eq_true, Bool.not_eq_true', List.isEmpty_eq_false_iff, List.all_eq_true] at h
  refine ⟨by simpa [lowL] using h.2, fun c hc => ?_⟩
  obtain ⟨x, hx, rfl⟩ := List.mem_map.1 hc
  exact tok_low x (h.1 x hx)
theorem dropWhile_head {p : UInt8 → Bool} (l : List UInt8) (h : l.dropWhile p ≠ []) : p (byteAt (l.dropWhile p) 0) = false := by
  induction l with
  | nil => exact absurd rfl h
  | cons a l ih =>
    unfold List.dropWhile at h ⊢
    cases hp : p a with
    | true => simp only [hp] at h ⊢; exact ih h
    | false => simp only [byteAt]; exact hp
theorem byteAt_last (l : List UInt8) : byteAt l.reverse 0 = byteAt l (l.length - 1) := by
  cases hl : l.length with
  | zero => have : l = [] := List.eq_nil_of_length_eq_zero hl; subst this; rfl
  | succ k =>
    unfold byteAt
    rw [List.getD_eq_getElem?_getD, List.getElem?_reverse (by omega), ← List.getD_eq_getElem?_getD, hl]
    rfl
theorem dropWhile_suffix {α : Type} (p : α → Bool) (l : List α) : ∃ a, l = a ++ l.dropWhile p := by
  induction l with
  | nil => exact ⟨[], rfl⟩
  | cons x l ih =>
    unfold List.dropWhile
    split
    · obtain ⟨a, h⟩ := ih; exact ⟨x :: a, by rw [List.cons_append, ← h]⟩
    · exact ⟨[], rfl⟩
theorem byteAt_append_last (a b : List UInt8) (h : b ≠ []) : byteAt (a ++ b) ((a ++ b).length - 1) = byteAt b (b.length - 1) := by
  rw [← byteAt_last, ← byteAt_last, List.reverse_append]
  cases hr : b.reverse with
  | nil => exact absurd (by simpa using hr) h
  | cons x r => rfl
theorem contains_blank (c : UInt8) : [(32 : UInt8), 9].contains c = ((c == 32) || (c == 9)) := by
  simp only [List.contains, List.elem]
  cases c == 32 <;> cases c == 9 <;> rfl
theorem trimF_ok (s : List UInt8) : valOk (trimF s) := by
  intro h
  unfold trimF Lib.trimS Lib.trimLeftS at h ⊢
  have h1 := dropWhile_head (p := ([32, 9].contains ·)) (Lib.trimRightS s [32, 9]) h
  rw [contains_blank, Bool.or_eq_false_iff, beq_eq_false_iff_ne, beq_eq_false_iff_ne] at h1
  obtain ⟨a, ha⟩ := dropWhile_suffix ([32, 9].contains ·) (Lib.trimRightS s [32, 9])
  have h2 := byteAt_append_last a _ h
  rw [← ha] at h2
  have hne : Lib.trimRightS s [32, 9] ≠ [] := by intro e; apply h; rw [e]; rfl
  have h3 : [(32 : UInt8), 9].contains (byteAt (Lib.trimRightS s [32, 9]) ((Lib.trimRightS s [32, 9]).length - 1)) = false := by
    rw [← byteAt_last]
    unfold Lib.trimRightS at hne ⊢
    rw [List.reverse_reverse]
    exact dropWhile_head (p := ([32, 9].contains ·)) s.reverse (by intro e; apply hne; rw [e]; rfl)
  rw [h2, contains_blank, Bool.or_eq_false_iff, beq_eq_false_iff_ne, beq_eq_false_iff_ne] at h3
  exact ⟨h1.1, h1.2, h3.1, h3.2⟩
structure HdOk (h : Hd) : Prop where
  same : h.ns.length = h.vs.length
  few : h.ns.length ≤ 32
  names : ∀ x ∈ h.ns, nameOk x
  vals : ∀ x ∈ h.vs, valOk x
theorem zeroH_ok : HdOk zeroH := ⟨rfl, by simp [zeroH], by simp [zeroH], by simp [zeroH]⟩
def AtOk (s : List UInt8) (h : Hd) (n : Nat) : Prop := (h.st = 0 ∧ n = 0) ∨ (100 ≤ h.st ∧ h.st ≤ 599 ∧ 15 ≤ n ∧ byteAt s (n - 2) = 13 ∧ byteAt s (n - 1) = 10)
theorem statF_cases (l : List UInt8) : statF l = 0 ∨ (100 ≤ statF l ∧ statF l ≤ 599 ∧ 13 ≤ l.length) := by
  unfold statF
  split
  · rename_i h
    simp only [Bool.and_eq_true, decide_eq_true_eq] at h
    split
    · rename_i h2; exact .inr ⟨h2.1, h2.2, h.1.1.1.1.1⟩
    · exact .inl rfl
  · exact .inl rfl
theorem turn_ok {s : List UInt8} {h h' : Hd} {n n' : Nat} (ho : HdOk h) (ha : AtOk s h n) (ht : turnF s h n = .on h' n') : HdOk h' ∧ AtOk s h' n' := by
  obtain ⟨i, hc, hi, hn, hn2, hn3⟩ := turnF_on ht
  obtain ⟨hs1, hs2, hs3⟩ := crlf_spec hc
  rw [byteAt_drop] at hs2 hs3
  have e2 : byteAt s (n' - 2) = 13 := by rw [hn, ← hs2]; congr 1
  have e1 : byteAt s (n' - 1) = 10 := by rw [hn, ← hs3]; congr 1
  unfold turnF at ht
  rw [hc] at ht
  simp only at ht
  split at ht
  · cases ht
  · split at ht
    · rename_i h0
      rcases statF_cases ((s.drop n).take i) with hz | ⟨hz1, hz2, hz3⟩
      · rw [if_pos hz] at ht; cases ht
      · rw [if_neg (by omega)] at ht
        cases ht
        simp at hz3
        exact ⟨⟨ho.same, ho.few, ho.names, ho.vals⟩, .inr ⟨hz1, hz2, by omega, e2, e1⟩⟩
    · split at ht
      · cases ht
      · rename_i h1 h2 h3
        rcases fieldF_cases ((s.drop n).take i) h (n + i + 2) with e | e | ⟨e, htok, hfew⟩ <;> rw [e] at ht <;> cases ht
        rcases ha with ⟨h0, _⟩ | ⟨g1, g2, g3, _⟩
        · exact absurd h0 h2
        refine ⟨⟨by simp [ho.same], by simp; omega, fun x hx => ?_, fun x hx => ?_⟩, .inr ⟨g1, g2, by omega, e2, e1⟩⟩
        · rcases List.mem_append.1 hx with hx | hx
          · exact ho.names x hx
          · rw [List.mem_singleton.1 hx]; exact tok_nameOk _ htok
        · rcases List.mem_append.1 hx with hx | hx
          · exact ho.vals x hx
          · rw [List.mem_singleton.1 hx]; exact trimF_ok _
theorem run_ok {s : List UInt8} : ∀ (f : Nat) {h h' : Hd} {n m : Nat}, HdOk h → AtOk s h n → runF s f h n = .done h' m →
    HdOk h' ∧ 100 ≤ h'.st ∧ h'.st ≤ 599 ∧ 17 ≤ m ∧ m ≤ 2048 ∧ m ≤ s.length ∧ byteAt s (m - 4) = 13 ∧ byteAt s (m - 3) = 10 ∧ byteAt s (m - 2) = 13 ∧ byteAt s (m - 1) = 10
  | 0, _, _, _, _, _, _, hr => by cases hr
  | f + 1, h, h', n, m, ho, ha, hr => by
    unfold runF at hr
    cases ht : turnF s h n with
    | fail e => rw [ht] at hr; cases hr
    | done h1 n1 =>
      rw [ht] at hr; cases hr
      obtain ⟨hc, e0, e1, h0, hb1, hb2⟩ := turnF_done ht
      obtain ⟨_, hs2, hs3⟩ := crlf_spec hc
      rw [byteAt_drop] at hs2 hs3
      subst e1
      rcases ha with ⟨hz, _⟩ | ⟨g1, g2, g3, g4, g5⟩
      · exact absurd hz h0
      refine ⟨ho, g1, g2, by omega, hb1, hb2, ?_, ?_, ?_, ?_⟩
      · rw [e0, ← g4]; congr 1
      · rw [e0, ← g5]; congr 1
      · rw [e0, ← hs2]; congr 1
      · rw [e0, ← hs3]; congr 1
    | on h1 n1 =>
      rw [ht] at hr
      obtain ⟨g1, g2⟩ := turn_ok ho ha ht
      exact run_ok f g1 g2 hr
theorem parse_ok {s : List UInt8} {h : Hd} {m : Nat} (hp : parseF s = .done h m) :
    HdOk h ∧ 100 ≤ h.st ∧ h.st ≤ 599 ∧ 17 ≤ m ∧ m ≤ 2048 ∧ m ≤ s.length ∧ byteAt s (m - 4) = 13 ∧ byteAt s (m - 3) = 10 ∧ byteAt s (m - 2) = 13 ∧ byteAt s (m - 1) = 10 :=
  run_ok 3000 zeroH_ok (.inl ⟨rfl, rfl⟩) hp
/-- a field's first value, and how many there are, of the first i -/
def getN (ns vs : List (List UInt8)) (x : List UInt8) : Nat → List UInt8 × Nat
  | 0 => ([], 0)
  | i + 1 => if ns.getD i [] = x then (if (getN ns vs x i).2 = 0 ∧ i < vs.length then vs.getD i [] else (getN ns vs x i).1, (getN ns vs x i).2 + 1) else getN ns vs x i
theorem getN_at (ns vs : List (List UInt8)) (i : Nat) (hi : i < vs.length) : ∀ m, i < m → 1 ≤ (getN ns vs (ns.getD i []) m).2 ∧ ((getN ns vs (ns.getD i []) m).2 = 1 → (getN ns vs (ns.getD i []) m).1 = vs.getD i [])
  | 0, h => by omega
  | m + 1, h => by
    by_cases hm : m = i
    · subst hm
      unfold getN
      rw [if_pos rfl]
      refine ⟨by omega, fun h2 => ?_⟩
      simp only at h2 ⊢
      rw [if_pos ⟨by omega, hi⟩]
    · obtain ⟨h1, h2⟩ := getN_at ns vs i hi m (by omega)
      unfold getN
      split
      · refine ⟨by omega, fun h3 => ?_⟩
        simp only at h3; omega
      · exact ⟨h1, h2⟩
theorem getN_le (ns vs : List (List UInt8)) (x : List UInt8) : ∀ m, (getN ns vs x m).2 ≤ m
  | 0 => Nat.le_refl _
  | m + 1 => by
    have := getN_le ns vs x m
    unfold getN
    split
    · simp only; omega
    · omega
/-! ### Fields, laid as a head -/
def fieldL (n v a b : List UInt8) : List UInt8 := n ++ [58] ++ a ++ v ++ b
def smallB (n : List UInt8) : Bool := n.all fun c => decide (97 ≤ c.toNat) && decide (c.toNat ≤ 122)
def laidOk (n v : List UInt8) : Prop := 1 ≤ n.length ∧ n.length ≤ 50 ∧ v.length ≤ 100 ∧ trimF v = v ∧ smallB n = true ∧ textB v = true
def blankB (a : List UInt8) : Bool := a.all fun c => [(32 : UInt8), 9].contains c
set_option maxRecDepth 100000 in
theorem small_all : ∀ n, n < 256 → (decide (97 ≤ (UInt8.ofNat n).toNat) && decide ((UInt8.ofNat n).toNat ≤ 122)) = true → tokC (UInt8.ofNat n) = true ∧ lowC (UInt8.ofNat n) = UInt8.ofNat n ∧ UInt8.ofNat n ≠ 58 ∧ UInt8.ofNat n ≠ 13 := by decide
theorem small_one (c : UInt8) (h : (decide (97 ≤ c.toNat) && decide (c.toNat ≤ 122)) = true) : tokC c = true ∧ lowC c = c ∧ c ≠ 58 ∧ c ≠ 13 := by
  have := small_all c.toNat c.toNat_lt
  rw [UInt8.ofNat_toNat] at this
  exact this h
theorem dropWhile_blank (a l : List UInt8) (h : blankB a = true) : (a ++ l).dropWhile ([(32 : UInt8), 9].contains ·) = l.dropWhile ([(32 : UInt8), 9].contains ·) := by
  induction a with
  | nil => rfl
  | cons c a ih =>
    simp only [blankB, List.all_cons, Bool.and_eq_true] at h
    rw [List.cons_append, List.dropWhile_cons]
    rw [if_pos h.1]; exact ih h.2
theorem dropWhile_len {α : Type} (p : α → Bool) (l : List α) : (l.dropWhile p).length ≤ l.length := by
  obtain ⟨a, h⟩ := dropWhile_suffix p l
  have := congrArg List.length h
  simp at this; omega
theorem dropWhile_fix {α : Type} {p : α → Bool} {l : List α} (h : (l.dropWhile p).length = l.length) : l.dropWhile p = l := by
  obtain ⟨a, ha⟩ := dropWhile_suffix p l
  have := congrArg List.length ha
  simp only [List.length_append] at this
  have h0 : a = [] := List.eq_nil_of_length_eq_zero (by omega)
  rw [h0] at ha; exact ha.symm
theorem dropWhile_keep {p : UInt8 → Bool} (v r : List UInt8) (hv : v ≠ []) (h : v.dropWhile p = v) : (v ++ r).dropWhile p = v ++ r := by
  cases v with
  | nil => exact absurd rfl hv
  | cons c v =>
    have : p c = false := by
      have := dropWhile_head (p := p) (c :: v) (by rw [h]; simp)
      rw [h] at this; exact this
    rw [List.cons_append, List.dropWhile_cons, if_neg (by simp [this])]
theorem trimF_len (v : List UInt8) (h : trimF v = v) : v.dropWhile ([(32 : UInt8), 9].contains ·) = v ∧ v.reverse.dropWhile ([(32 : UInt8), 9].contains ·) = v.reverse := by
  unfold trimF Lib.trimS Lib.trimLeftS Lib.trimRightS at h
  have h1 := congrArg List.length h
  have h2 := dropWhile_len ([(32 : UInt8), 9].contains ·) (v.reverse.dropWhile ([(32 : UInt8), 9].contains ·)).reverse
  have h3 := dropWhile_len ([(32 : UInt8), 9].contains ·) v.reverse
  simp only [List.length_reverse] at h2 h3
  have h4 : v.reverse.dropWhile ([(32 : UInt8), 9].contains ·) = v.reverse := dropWhile_fix (by simp only [List.length_reverse]; omega)
  rw [h4, List.reverse_reverse] at h
  exact ⟨h, h4⟩
theorem blank_rev (b : List UInt8) (h : blankB b = true) : blankB b.reverse = true := by simpa [blankB] using h
theorem trimF_laid (v a b : List UInt8) (h : trimF v = v) (ha : blankB a = true) (hb : blankB b = true) : trimF (a ++ v ++ b) = v := by
  obtain ⟨h1, h2⟩ := trimF_len v h
  unfold trimF Lib.trimS Lib.trimLeftS Lib.trimRightS
  rw [List.reverse_append, List.reverse_append, dropWhile_blank _ _ (blank_rev b hb)]
  by_cases hv : v = []
  · subst hv
    have := dropWhile_blank a.reverse [] (blank_rev a ha)
    simp at this
    simp [this]
  · rw [dropWhile_keep _ _ (by simpa using hv) h2, List.reverse_append, List.reverse_reverse, List.reverse_reverse, dropWhile_blank _ _ ha, h1]
set_option maxRecDepth 100000 in
theorem blank_text : ∀ n, n < 256 → [(32 : UInt8), 9].contains (UInt8.ofNat n) = true → textC (UInt8.ofNat n) = true := by decide
set_option maxRecDepth 100000 in
theorem text_13 : ∀ n, n < 256 → textC (UInt8.ofNat n) = true → UInt8.ofNat n ≠ 13 := by decide
theorem textC_13 (c : UInt8) (h : textC c = true) : c ≠ 13 := by
  have := text_13 c.toNat c.toNat_lt
  rw [UInt8.ofNat_toNat] at this; exact this h
theorem blank_textB (a : List UInt8) (h : blankB a = true) : textB a = true := by
  simp only [blankB, textB, List.all_eq_true] at h ⊢
  intro c hc
  have := blank_text c.toNat c.toNat_lt
  rw [UInt8.ofNat_toNat] at this
  exact this (h c hc)
theorem nameL_field (n r : List UInt8) (h : smallB n = true) : nameL (n ++ 58 :: r) = n := by
  induction n with
  | nil => rfl
  | cons c n ih =>
    simp only [smallB, List.all_cons, Bool.and_eq_true] at h
    have hc := (small_one c (by simp [h.1])).2.2.1
    unfold nameL at ih ⊢
    rw [List.cons_append, List.takeWhile_cons, if_pos (by simp [hc])]
    rw [ih (by simp only [smallB, List.all_eq_true]; simpa using h.2)]
theorem fieldF_laid (n v a b : List UInt8) (h : Hd) (m : Nat) (hl : laidOk n v) (ha : blankB a = true) (hb : blankB b = true) (hf : h.ns.length < 32) :
    fieldF (fieldL n v a b) h m = .on ⟨h.st, h.ns ++ [n], h.vs ++ [v]⟩ m := by
  obtain ⟨h1, h2, h3, h4, h5, h6⟩ := hl
  have e : fieldL n v a b = n ++ 58 :: (a ++ v ++ b) := by simp [fieldL]
  have en := nameL_field n (a ++ v ++ b) h5
  have ht : tokB n = true := by
    simp only [tokB, Bool.and_eq_true, Bool.not_eq_true', List.isEmpty_eq_false_iff, List.all_eq_true]
    simp only [smallB, List.all_eq_true] at h5
    exact ⟨fun c hc => (small_one c (h5 c hc)).1, by intro e; subst e; simp at h1⟩
  have hlow : lowL n = n := by
    unfold lowL
    simp only [smallB, List.all_eq_true] at h5
    conv => rhs; rw [← List.map_id n]
    exact List.map_congr_left fun c hc => (small_one c (h5 c hc)).2.1
  have hd : (n ++ 58 :: (a ++ v ++ b)).drop (n.length + 1) = a ++ v ++ b := by
    rw [List.drop_append, List.drop_of_length_le (by omega), List.nil_append, Nat.add_sub_cancel_left]; rfl
  have htx : textB (a ++ v ++ b) = true := by
    have x1 := blank_textB a ha
    have x2 := blank_textB b hb
    simp only [textB, List.all_append, Bool.and_eq_true] at x1 x2 h6 ⊢
    exact ⟨⟨x1, h6⟩, x2⟩
  unfold fieldF
  rw [e, en, hd, ht, htx, hlow, trimF_laid v a b h4 ha hb]
  rw [if_neg (by simp), if_neg (by omega)]
/-- a text that is a head so far -/
def LaidH (s : List UInt8) (h : Hd) : Prop := h.st ≠ 0 ∧ s.length ≤ 2046 ∧ h.ns.length ≤ 32 ∧ ∀ t, parseF (s ++ t) = runF (s ++ t) (2999 - h.ns.length) h s.length
theorem runF_succ (s : List UInt8) (f : Nat) (h : Hd) (n : Nat) : runF s (f + 1) h n = (match turnF s h n with | .on h' n' => runF s f h' n' | r => r) := rfl
theorem LaidH.field {s : List UInt8} {h : Hd} (H : LaidH s h) (n v a b : List UInt8) (hl : laidOk n v) (ha : blankB a = true) (hb : blankB b = true) (ha2 : a.length ≤ 2) (hb2 : b.length ≤ 2) (hf : h.ns.length < 32)
    (hm : s.length + n.length + v.length + 9 ≤ 2046) : LaidH (s ++ (fieldL n v a b ++ [13, 10])) ⟨h.st, h.ns ++ [n], h.vs ++ [v]⟩ := by
  obtain ⟨h1, h2, h3, h4⟩ := H
  have hlen : (fieldL n v a b).length ≤ n.length + v.length + 5 := by simp [fieldL]; omega
  refine ⟨h1, by simp; omega, by simp; omega, fun t => ?_⟩
  have e : s ++ (fieldL n v a b ++ [13, 10]) ++ t = s ++ (fieldL n v a b ++ 13 :: 10 :: t) := by simp
  rw [e, h4]
  have hno : ∀ c ∈ fieldL n v a b, c ≠ 13 := by
    obtain ⟨_, _, _, _, h5, h6⟩ := hl
    simp only [smallB, textB, List.all_eq_true] at h5 h6
    have x1 := blank_textB a ha
    have x2 := blank_textB b hb
    simp only [textB, List.all_eq_true] at x1 x2
    intro c hc
    simp only [fieldL, List.mem_append, List.mem_singleton] at hc
    rcases hc with (((hc | hc) | hc) | hc) | hc
    · exact (small_one c (h5 c hc)).2.2.2
    · subst hc; decide
    · exact textC_13 c (x1 c hc)
    · exact textC_13 c (h6 c hc)
    · exact textC_13 c (x2 c hc)
  have hc := crlf_line (fieldL n v a b) t hno
  have hdr : (s ++ (fieldL n v a b ++ 13 :: 10 :: t)).drop s.length = fieldL n v a b ++ 13 :: 10 :: t := by simp
  obtain ⟨l1, l2, l3, _⟩ := hl
  have hpos : (fieldL n v a b).length ≠ 0 := by simp [fieldL]
  have htn : turnF (s ++ (fieldL n v a b ++ 13 :: 10 :: t)) h s.length = .on ⟨h.st, h.ns ++ [n], h.vs ++ [v]⟩ (s.length + (fieldL n v a b).length + 2) := by
    unfold turnF
    rw [hdr, hc]
    simp only
    rw [if_neg (by omega), if_neg h1, if_neg hpos]
    have : (fieldL n v a b ++ 13 :: 10 :: t).take (fieldL n v a b).length = fieldL n v a b := by simp
    rw [this, fieldF_laid n v a b h _ ⟨l1, l2, l3, by assumption⟩ ha hb hf]
  have hfu : 2999 - h.ns.length = (2999 - (h.ns ++ [n]).length) + 1 := by simp; omega
  rw [hfu, runF_succ, htn]
  simp only
  congr 1
  simp; omega
theorem LaidH.done {s : List UInt8} {h : Hd} (H : LaidH s h) (t : List UInt8) : parseF (s ++ 13 :: 10 :: t) = .done h (s.length + 2) := by
  obtain ⟨h1, h2, h3, h4⟩ := H
  rw [h4]
  have hdr : (s ++ 13 :: 10 :: t).drop s.length = 13 :: 10 :: t := by simp
  have hc : crlf (13 :: 10 :: t) = some 0 := by simp [crlf, List.isPrefixOf]
  have hfu : 2999 - h.ns.length = (2998 - h.ns.length) + 1 := by omega
  rw [hfu]
  unfold runF turnF
  rw [hdr, hc]
  simp only
  rw [if_neg (by omega), if_neg h1]
  rfl
theorem dec3 (n : Nat) (h1 : 100 ≤ n) (h2 : n ≤ 599) : Lib.decDigits n = [UInt8.ofNat (48 + n / 100), UInt8.ofNat (48 + n / 10 % 10), UInt8.ofNat (48 + n % 10)] := by
  rw [Lib.decDigits, dif_neg (by omega), Lib.decDigits, dif_neg (by omega), Lib.decDigits, dif_pos (by omega)]
  simp [Nat.div_div_eq_div_mul]
theorem digit_nat (d : Nat) (h : d < 10) : (UInt8.ofNat (48 + d)).toNat = 48 + d := by
  rw [UInt8.toNat_ofNat']; omega
theorem digit_dig (d : Nat) (h : d < 10) : digC (UInt8.ofNat (48 + d)) = true := by
  unfold digC; rw [digit_nat d h]; simp; omega
def firstL (n : Nat) : List UInt8 := [72, 84, 84, 80, 47, 49, 46, 49, 32] ++ Lib.decDigits n ++ [32]
theorem statF_first (n : Nat) (h1 : 100 ≤ n) (h2 : n ≤ 599) : statF (firstL n) = n := by
  unfold firstL
  rw [dec3 n h1 h2]
  have d1 := digit_nat (n / 100) (by omega)
  have d2 := digit_nat (n / 10 % 10) (by omega)
  have d3 := digit_nat (n % 10) (by omega)
  have g1 := digit_dig (n / 100) (by omega)
  have g2 := digit_dig (n / 10 % 10) (by omega)
  have g3 := digit_dig (n % 10) (by omega)
  unfold statF statN
  generalize UInt8.ofNat (48 + n / 100) = a at *
  generalize UInt8.ofNat (48 + n / 10 % 10) = b at *
  generalize UInt8.ofNat (48 + n % 10) = c at *
  have e : ∀ (A B C : UInt8), A = a → B = b → C = c → (if 100 ≤ 100 * (A.toNat - 48) + 10 * (B.toNat - 48) + (C.toNat - 48) ∧ 100 * (A.toNat - 48) + 10 * (B.toNat - 48) + (C.toNat - 48) ≤ 599 then 100 * (A.toNat - 48) + 10 * (B.toNat - 48) + (C.toNat - 48) else 0) = n := by
    rintro A B C rfl rfl rfl
    rw [d1, d2, d3, if_pos (by omega)]; omega
  rw [if_pos]
  · exact e _ _ _ rfl rfl rfl
  · simp [byteAt, httpL, g1, g2, g3, textB]
    decide
theorem laid_first (n : Nat) (h1 : 100 ≤ n) (h2 : n ≤ 599) : LaidH (firstL n ++ [13, 10]) ⟨n, [], []⟩ := by
  have hl : (firstL n).length = 13 := by unfold firstL; rw [dec3 n h1 h2]; rfl
  refine ⟨by show n ≠ 0; omega, by simp [hl], by simp, fun t => ?_⟩
  have hno : ∀ c ∈ firstL n, c ≠ 13 := by
    have hd : ∀ d : Nat, d < 10 → UInt8.ofNat (48 + d) ≠ 13 := by decide
    unfold firstL
    rw [dec3 n h1 h2]
    intro c hc
    simp only [List.mem_append, List.mem_cons, List.not_mem_nil, or_false, or_assoc] at hc
    rcases hc with rfl | rfl | rfl | rfl | rfl | rfl | rfl | rfl | rfl | rfl | rfl | rfl | rfl <;> first | decide | exact hd _ (by omega)
  have e : firstL n ++ [13, 10] ++ t = firstL n ++ 13 :: 10 :: t := by simp
  have hc := crlf_line (firstL n) t hno
  have ht : turnF (firstL n ++ 13 :: 10 :: t) zeroH 0 = .on ⟨n, [], []⟩ 15 := by
    unfold turnF
    rw [List.drop_zero, hc]
    simp only
    have : (firstL n ++ 13 :: 10 :: t).take (firstL n).length = firstL n := by simp
    rw [this, statF_first n h1 h2, hl]
    rw [if_neg (by omega)]
    have h0 : ¬ n = 0 := by omega
    simp [zeroH, h0]
  rw [e]
  have e2 : parseF (firstL n ++ 13 :: 10 :: t) = (match turnF (firstL n ++ 13 :: 10 :: t) zeroH 0 with | .on h' n' => runF (firstL n ++ 13 :: 10 :: t) 2999 h' n' | r => r) := rfl
  rw [e2, ht]
  simp [hl]
set_option maxHeartbeats 8000000
set_option maxRecDepth 100000
/-! ### lower, Small; Trim; End -/
structure CellsB (w : World) (b : Nat) (l : List UInt8) : Prop where
  cell : ∀ i, i < l.length → w.cell? ⟨b, i, none⟩ = some (B (byteAt l i))
  free : ∀ i, i < l.length → w.frozen? ⟨b, i, none⟩ = false
theorem byteAt_set_eq (l : List UInt8) (k : Nat) (c : UInt8) (h : k < l.length) : byteAt (l.set k c) k = c := by
  unfold byteAt; simp [List.getD_eq_getElem?_getD, h]
theorem byteAt_set_ne (l : List UInt8) (k i : Nat) (c : UInt8) (h : i ≠ k) : byteAt (l.set k c) i = byteAt l i := by
  unfold byteAt; rw [List.getD_eq_getElem?_getD, List.getD_eq_getElem?_getD, List.getElem?_set_ne (Ne.symm h)]
theorem CellsB.set {w : World} {b : Nat} {l : List UInt8} (h : CellsB w b l) (k : Nat) (c : UInt8) (hk : k < l.length) : CellsB (w.setCell ⟨b, k, none⟩ (B c)) b (l.set k c) := by
  constructor
  · intro i hi
    rw [List.length_set] at hi
    by_cases hik : i = k
    · subst hik
      rw [World.cell?_setCell_same' _ _ _ (by rw [h.cell i hi]; rfl), byteAt_set_eq _ _ _ hi]
    · rw [byteAt_set_ne _ _ _ _ hik, ← h.cell i hi]
      exact World.cell?_setCell_other w _ _ _ (fun e => hik (by injection e with _ e2 _; exact e2.symm))
  · intro i hi
    rw [List.length_set] at hi
    rw [World.frozen?_setCell]; exact h.free i hi
theorem CellsB.conv {w : World} {b : Nat} {l : List UInt8} (h : CellsB w b l) (c : Nat) : (convert 31 9 (.slice (some ⟨b, 0, none⟩) l.length c)).run Tryd.prog w = .ok (S l) w := by
  have hr := run_convert_bytes_arg (P := Tryd.prog) w 31 5 Tryd.underlying31 Tryd.underlying5 b 0 l.length c (l.map fun c => (c.toNat : Int)) (by simp) (fun i hi => by
    rw [Nat.zero_add, h.cell i hi, byteAt_eq l i hi]
    simp [List.getD, hi]) 9 Tryd.underlying9
  rw [hr]
  have : strOfNums (l.map fun c => (c.toNat : Int)) = ⟨l.toArray⟩ := by
    unfold strOfNums; rw [List.map_map]; congr 1
    have : l.map ((fun n : Int => UInt8.ofNat n.toNat) ∘ fun c : UInt8 => (c.toNat : Int)) = l := by
      conv => rhs; rw [← List.map_id l]
      apply List.map_congr_left; intro x _; simp
    rw [this]
  rw [this]
theorem text_cells (l : List UInt8) (w : World) : ∃ (c : Nat) (W : World), (convert 9 31 (S l)).run Tryd.prog w = .ok (.slice (some ⟨w.heap.size, 0, none⟩) l.length c) W ∧ Kept [] w W ∧ CellsB W w.heap.size l := by
  have hr := run_bytes_of_string w 9 31 5 ⟨l.toArray⟩ Tryd.underlying9 Tryd.underlying31 Tryd.underlying5
  have e1 : (⟨l.toArray⟩ : ByteArray).size = l.length := by simp [ByteArray.size]
  obtain ⟨c, hc⟩ : ∃ c, grownCap w (⟨l.toArray⟩ : ByteArray).size 0 5 = c := ⟨_, rfl⟩
  rw [hc, e1] at hr
  have hlen : l.length ≤ (bytesRow ⟨l.toArray⟩ c).size := by simp [bytesRow]
  have hh : (w.drew.alloc (.cells (bytesRow ⟨l.toArray⟩ c) 5 ((bytesRow ⟨l.toArray⟩ c).size, (bytesRow ⟨l.toArray⟩ c).size + 1))).heap[w.heap.size]? = some (.cells (bytesRow ⟨l.toArray⟩ c) 5 ((bytesRow ⟨l.toArray⟩ c).size, (bytesRow ⟨l.toArray⟩ c).size + 1)) := heap_new w.drew _
  refine ⟨c, _, hr, ((Kept.refl [] w).drew).alloc _, fun i hi => ?_, fun i hi => ?_⟩
  · have h2 := bytesRow_at ⟨l.toArray⟩ c i (by simpa using hi)
    simp only [World.cell?, hh, h2]
    rw [byteAt_eq l i hi]
    rfl
  · simp only [World.frozen?, hh]
    simp
    omega
theorem low_step (s : List UInt8) (k : Nat) (h : k < s.length) : (lowL (s.take k) ++ s.drop k).set k (lowC (byteAt s k)) = lowL (s.take (k + 1)) ++ s.drop (k + 1) := by
  have hl : (lowL (s.take k)).length = k := by simp [lowL]; omega
  rw [List.set_append_right _ _ (by omega), hl, Nat.sub_self, drop_byte s k h, take_byteAt s k h]
  simp [lowL]
theorem low_at (s : List UInt8) (k : Nat) (h : k < s.length) : byteAt (lowL (s.take k) ++ s.drop k) k = byteAt s k := by
  have hl : (lowL (s.take k)).length = k := by simp [lowL]; omega
  rw [drop_byte s k h]
  unfold byteAt
  rw [List.getD_eq_getElem?_getD, List.getElem?_append_right (by omega), hl, Nat.sub_self]
  rfl
theorem low_same (s : List UInt8) (k : Nat) (h : k < s.length) (hc : lowC (byteAt s k) = byteAt s k) : lowL (s.take k) ++ s.drop k = lowL (s.take (k + 1)) ++ s.drop (k + 1) := by
  rw [drop_byte s k h, take_byteAt s k h]
  simp [lowL, hc]
theorem low_len (s : List UInt8) (k : Nat) : (lowL (s.take k) ++ s.drop k).length = s.length := by simp [lowL]; omega
theorem lowC_up {c : UInt8} (h : 65 ≤ c.toNat ∧ c.toNat ≤ 90) : ((lowC c).toNat : Int) = (c.toNat : Int) + 32 := by
  unfold lowC
  rw [if_pos h, UInt8.toNat_add]
  have : (32 : UInt8).toNat = 32 := rfl
  rw [this]
  omega
theorem lower_any (s : List UInt8) (w : World) (hs : s.length ≤ 9223372036854775807) :
    Calls Tryd.prog 83 #[S s] w fun e w' => e = .returned (S (lowL s)) ∧ Kept [] w w' := by
  have hs' : (s.length : Int) ≤ 9223372036854775807 := by omega
  obtain ⟨cp, X, hcb, kX, hX⟩ := text_cells s w
  have HX := Lib.hid (And.intro hX kX)
  clear hX kX
  go_enter Tryd.func83, Tryd.ntmps83
  go_wp2_with (fail)
  clear hcb
  go_loopw [4, 5, 10] (fun _ _ i wr => ∃ k : Nat, k ≤ s.length ∧ i = I k ∧ CellsB wr w.heap.size (lowL (s.take k) ++ s.drop k) ∧ Kept [] w wr) (fun _ _ i _ => s.length - (intOf i).toNat)
  case atStart => exact ⟨0, by omega, rfl, HX.out.1, HX.out.2⟩
  case round =>
    obtain ⟨k, hk, rfl, hcb, hkw⟩ := hrel
    have HC := Lib.hid hcb
    have HK := Lib.hid hkw
    by_cases hlt : k < s.length
    · have hlt' : (k : Int) < s.length := by omega
      have hcell := hcb.cell k (by rw [low_len]; exact hlt)
      have hfree := hcb.free k (by rw [low_len]; exact hlt)
      rw [low_at s k hlt] at hcell
      have HS := Lib.hid (low_step s k hlt)
      have HE := Lib.hid (low_same s k hlt)
      have HW := Lib.hid (hcb.set k (lowC (byteAt s k)) (by rw [low_len]; exact hlt))
      obtain ⟨c, hc⟩ : ∃ c, byteAt s k = c := ⟨_, rfl⟩
      rw [hc] at hcell HS HE HW
      have hcl := byteAt_lt s k
      rw [hc] at hcl
      clear hcb hkw hc
      by_cases h1 : 65 ≤ c.toNat
      · by_cases h2 : c.toNat ≤ 90
        · have h1' : (65 : Int) ≤ c.toNat := by omega
          have h2' : (c.toNat : Int) ≤ 90 := by omega
          have HU := Lib.hid (lowC_up ⟨h1, h2⟩)
          have HKS : Hid (Kept [] w (wr.setCell ⟨w.heap.size, k, none⟩ (B (lowC c)))) := Lib.hid (HK.out.setCell (.inr (Nat.le_refl _)) _)
          go_wp2_with (fail)
          go_roundw
          case rel => exact ⟨k + 1, by omega, by go_num, by rw [← HS.out, ← HU.out]; exact HW.out, by rw [← HU.out]; exact HKS.out⟩
          case measure => simp [intOf]; omega
        · have h1' : (65 : Int) ≤ c.toNat := by omega
          have h2' : ¬ (c.toNat : Int) ≤ 90 := by omega
          have HL : Hid (lowC c = c) := Lib.hid (by unfold lowC; rw [if_neg (by omega)])
          go_wp2_with (fail)
          go_roundw
          case rel => exact ⟨k + 1, by omega, by go_num, by rw [← HE.out HL.out]; exact HC.out, HK.out⟩
          case measure => simp [intOf]; omega
      · have h1' : ¬ (65 : Int) ≤ c.toNat := by omega
        have HL : Hid (lowC c = c) := Lib.hid (by unfold lowC; rw [if_neg (by omega)])
        go_wp2_with (fail)
        go_roundw
        case rel => exact ⟨k + 1, by omega, by go_num, by rw [← HE.out HL.out]; exact HC.out, HK.out⟩
        case measure => simp [intOf]; omega
    · have hlt' : ¬ (k : Int) < s.length := by omega
      have he : lowL (s.take k) ++ s.drop k = lowL s := by rw [List.take_of_length_le (by omega), List.drop_of_length_le (by omega), List.append_nil]
      rw [he] at hcb
      have hcv := hcb.conv cp
      have hll : (lowL s).length = s.length := by simp [lowL]
      rw [hll] at hcv
      clear hcb hkw he
      go_wp2_with (fail)
      go_ret
      exact ⟨rfl, HK.out⟩
theorem small_any (s : List UInt8) (w : World) (hs : s.length ≤ 9223372036854775807) :
    Calls Tryd.prog 75 #[S s] w fun e w' => e = .returned (S (lowL s)) ∧ Kept [] w w' := by
  have hs' : (s.length : Int) ≤ 9223372036854775807 := by omega
  obtain ⟨cp, X, hcb, kX, hX⟩ := text_cells s w
  have HX := Lib.hid (And.intro hX kX)
  clear hX kX
  go_enter Tryd.func75, Tryd.ntmps75
  go_wp2_with (fail)
  clear hcb
  go_loopw [4] (fun i wr => ∃ k : Nat, k ≤ s.length ∧ i = I k ∧ CellsB wr w.heap.size (lowL (s.take k) ++ s.drop k) ∧ Kept [] w wr) (fun i _ => s.length - (intOf i).toNat)
  case atStart => exact ⟨0, by omega, rfl, HX.out.1, HX.out.2⟩
  case round =>
    obtain ⟨k, hk, rfl, hcb, hkw⟩ := hrel
    have HC := Lib.hid hcb
    have HK := Lib.hid hkw
    by_cases hlt : k < s.length
    · have hlt' : (k : Int) < s.length := by omega
      have hcell := hcb.cell k (by rw [low_len]; exact hlt)
      have hfree := hcb.free k (by rw [low_len]; exact hlt)
      rw [low_at s k hlt] at hcell
      have HS := Lib.hid (low_step s k hlt)
      have HE := Lib.hid (low_same s k hlt)
      have HW := Lib.hid (hcb.set k (lowC (byteAt s k)) (by rw [low_len]; exact hlt))
      obtain ⟨c, hc⟩ : ∃ c, byteAt s k = c := ⟨_, rfl⟩
      rw [hc] at hcell HS HE HW
      have hcl := byteAt_lt s k
      rw [hc] at hcl
      clear hcb hkw hc
      by_cases h1 : 65 ≤ c.toNat
      · by_cases h2 : c.toNat ≤ 90
        · have h1' : (65 : Int) ≤ c.toNat := by omega
          have h2' : (c.toNat : Int) ≤ 90 := by omega
          have HU := Lib.hid (lowC_up ⟨h1, h2⟩)
          have HKS : Hid (Kept [] w (wr.setCell ⟨w.heap.size, k, none⟩ (B (lowC c)))) := Lib.hid (HK.out.setCell (.inr (Nat.le_refl _)) _)
          go_wp2_with (fail)
          go_roundw
          case rel => exact ⟨k + 1, by omega, by go_num, by rw [← HS.out, ← HU.out]; exact HW.out, by rw [← HU.out]; exact HKS.out⟩
          case measure => simp [intOf]; omega
        · have h1' : (65 : Int) ≤ c.toNat := by omega
          have h2' : ¬ (c.toNat : Int) ≤ 90 := by omega
          have HL : Hid (lowC c = c) := Lib.hid (by unfold lowC; rw [if_neg (by omega)])
          go_wp2_with (fail)
          go_roundw
          case rel => exact ⟨k + 1, by omega, by go_num, by rw [← HE.out HL.out]; exact HC.out, HK.out⟩
          case measure => simp [intOf]; omega
      · have h1' : ¬ (65 : Int) ≤ c.toNat := by omega
        have HL : Hid (lowC c = c) := Lib.hid (by unfold lowC; rw [if_neg (by omega)])
        go_wp2_with (fail)
        go_roundw
        case rel => exact ⟨k + 1, by omega, by go_num, by rw [← HE.out HL.out]; exact HC.out, HK.out⟩
        case measure => simp [intOf]; omega
    · have hlt' : ¬ (k : Int) < s.length := by omega
      have he : lowL (s.take k) ++ s.drop k = lowL s := by rw [List.take_of_length_le (by omega), List.drop_of_length_le (by omega), List.append_nil]
      rw [he] at hcb
      have hcv := hcb.conv cp
      have hll : (lowL s).length = s.length := by simp [lowL]
      rw [hll] at hcv
      clear hcb hkw he
      go_wp2_with (fail)
      go_ret
      exact ⟨rfl, HK.out⟩
end Go.Proofs.YtgdioalhlmnhhaaDoor
