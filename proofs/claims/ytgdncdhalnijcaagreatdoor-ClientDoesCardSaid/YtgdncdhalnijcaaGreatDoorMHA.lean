/- Walks and lemmas on the program of this seat, used by its statements; each theorem bears its own conditions. -/
import Derived.Test.YtgdncdhalnijcaaGreatDoorMGen
import Derived.Test.YtgdncdhalnijcaaGreatDoorShelf
import Derived.Lib.IndexMore
import Derived.Lib.SlTrimSet
import Derived.Handy
import Derived.Deep.CutRange
import Derived.Lib.IndexLaws
import Derived.Lib.BufferWrite
import Derived.Lib.ItoaNum
namespace Go.Proofs.YtgdncdhalnijcaaGreatDoor
open Go.RowKit
set_option linter.unusedVariables false
set_option linter.unusedSimpArgs false
section
/-! ### Head: texts that may be; where a line ends; heads, line by line -/
def visC (c : UInt8) : Bool := decide (33 ≤ c.toNat) && decide (c.toNat ≤ 126)
def visB (s : List UInt8) : Bool := s.all visC && decide (1 ≤ s.length) && decide (s.length ≤ 64)
def textC (c : UInt8) : Bool := (c.toNat == 9) || (decide (32 ≤ c.toNat) && !(c.toNat == 127))
def textB (s : List UInt8) : Bool := s.all textC
def digC (c : UInt8) : Bool := decide (48 ≤ c.toNat) && decide (c.toNat ≤ 57)
def signsL : List UInt8 := [33, 35, 36, 37, 38, 39, 42, 43, 45, 46, 94, 95, 96, 124, 126]
def letC (c : UInt8) : Bool := (decide (97 ≤ c.toNat) && decide (c.toNat ≤ 122)) || (decide (65 ≤ c.toNat) && decide (c.toNat ≤ 90))
def tokC (c : UInt8) : Bool := letC c || (digC c || signsL.contains c)
def tokB (s : List UInt8) : Bool := s.all tokC && !s.isEmpty
def lowC (c : UInt8) : UInt8 := if 65 ≤ c.toNat ∧ c.toNat ≤ 90 then c + 32 else c
def lowL (s : List UInt8) : List UInt8 := s.map lowC
/-- where the first 13, 10 stands -/
def crlf : List UInt8 → Option Nat
  | [] => none
  | c :: l => if [13, 10].isPrefixOf (c :: l) then some 0 else (crlf l).map (· + 1)
theorem index_crlf (l : List UInt8) : Lib.index l [13, 10] = match crlf l with | some i => (i : Int) | none => -1 := by
  induction l with
  | nil => rfl
  | cons c l ih =>
    unfold Lib.index crlf
    by_cases h : [13, 10].isPrefixOf (c :: l) = true
    · rw [if_pos h, if_pos h]; rfl
    · rw [if_neg h, if_neg h, ih]
      cases crlf l with
      | none => rfl
      | some i =>
        simp only [Option.map_some]
        have : ((i : Int) == -1) = false := by rw [beq_eq_false_iff_ne]; omega
        rw [if_neg (by simp [this])]
        rfl
theorem crlf_spec {l : List UInt8} {i : Nat} (h : crlf l = some i) : i + 2 ≤ l.length ∧ byteAt l i = 13 ∧ byteAt l (i + 1) = 10 := by
  induction l generalizing i with
  | nil => cases h
  | cons c l ih =>
    unfold crlf at h
    by_cases hp : [13, 10].isPrefixOf (c :: l) = true
    · rw [if_pos hp] at h
      cases h
      cases l with
      | nil => simp [List.isPrefixOf] at hp
      | cons d l =>
        simp [List.isPrefixOf] at hp
        obtain ⟨rfl, rfl⟩ := hp
        exact ⟨by simp, rfl, rfl⟩
    · rw [if_neg hp] at h
      cases hc : crlf l with
      | none => rw [hc] at h; cases h
      | some j =>
        rw [hc] at h; cases h
        obtain ⟨h1, h2, h3⟩ := ih hc
        exact ⟨by simp; omega, by simpa [byteAt] using h2, by simpa [byteAt] using h3⟩
theorem crlf_take {l : List UInt8} {i : Nat} (k : Nat) (h : crlf l = some i) : crlf (l.take k) = if i + 2 ≤ k then some i else none := by
  induction l generalizing i k with
  | nil => cases h
  | cons c l ih =>
    unfold crlf at h
    by_cases hp : [13, 10].isPrefixOf (c :: l) = true
    · rw [if_pos hp] at h
      cases h
      cases l with
      | nil => simp [List.isPrefixOf] at hp
      | cons d l =>
        simp [List.isPrefixOf] at hp
        obtain ⟨rfl, rfl⟩ := hp
        match k with
        | 0 => rfl
        | 1 => rfl
        | k + 2 =>
          rw [if_pos (by omega)]
          simp [crlf, List.isPrefixOf]
    · rw [if_neg hp] at h
      cases hc : crlf l with
      | none => rw [hc] at h; cases h
      | some j =>
        rw [hc] at h; cases h
        match k with
        | 0 => rw [if_neg (by omega)]; rfl
        | k + 1 =>
          have hn : ¬ [13, 10].isPrefixOf (c :: l.take k) = true := by
            intro e; apply hp
            cases l with
            | nil => simp at e
            | cons d l =>
              cases k with
              | zero => simp [List.isPrefixOf] at e
              | succ k => simpa [List.isPrefixOf] using e
          show crlf (c :: l.take k) = _
          unfold crlf
          rw [if_neg hn, ih k hc]
          by_cases hk : j + 2 ≤ k
          · rw [if_pos hk, if_pos (by show j + 1 + 2 ≤ k + 1; omega)]; rfl
          · rw [if_neg hk, if_neg (by show ¬ j + 1 + 2 ≤ k + 1; omega)]; rfl
theorem crlf_none_take {l : List UInt8} (k : Nat) (h : crlf l = none) : crlf (l.take k) = none := by
  induction l generalizing k with
  | nil => simp [crlf]
  | cons c l ih =>
    unfold crlf at h
    by_cases hp : [13, 10].isPrefixOf (c :: l) = true
    · rw [if_pos hp] at h; cases h
    · rw [if_neg hp] at h
      cases hc : crlf l with
      | some j => rw [hc] at h; cases h
      | none =>
        match k with
        | 0 => rfl
        | k + 1 =>
          have hn : ¬ [13, 10].isPrefixOf (c :: l.take k) = true := by
            intro e; apply hp
            cases l with
            | nil => simp at e
            | cons d l =>
              cases k with
              | zero => simp [List.isPrefixOf] at e
              | succ k => simpa [List.isPrefixOf] using e
          show crlf (c :: l.take k) = _
          unfold crlf
          rw [if_neg hn, ih k hc]; rfl
theorem crlf_line (a r : List UInt8) (h : ∀ c ∈ a, c ≠ 13) : crlf (a ++ 13 :: 10 :: r) = some a.length := by
  induction a with
  | nil => simp [crlf, List.isPrefixOf]
  | cons c a ih =>
    have hc : ¬ [13, 10].isPrefixOf (c :: (a ++ 13 :: 10 :: r)) = true := by
      simp [List.isPrefixOf]; intro e; exact absurd e.symm (h c (by simp))
    show crlf (c :: (a ++ 13 :: 10 :: r)) = _
    unfold crlf
    rw [if_neg hc, ih fun x hx => h x (by simp [hx])]
    rfl
theorem drop_byte (l : List UInt8) (i : Nat) (h : i < l.length) : l.drop i = byteAt l i :: l.drop (i + 1) := by
  rw [List.drop_eq_getElem_cons h, byteAt_eq l i h]
/-- the step of the reference's search -/
theorem crlf_step (l : List UInt8) (i : Nat) (h : i + 1 < l.length) : crlf (l.drop i) = if byteAt l i = 13 ∧ byteAt l (i + 1) = 10 then some 0 else (crlf (l.drop (i + 1))).map (· + 1) := by
  rw [drop_byte l i (by omega)]
  conv => lhs; unfold crlf
  rw [drop_byte l (i + 1) h]
  by_cases hp : byteAt l i = 13 ∧ byteAt l (i + 1) = 10
  · rw [if_pos hp, if_pos (by simp [List.isPrefixOf, hp.1, hp.2])]
  · rw [if_neg hp, if_neg (by simp [List.isPrefixOf]; intro e1 e2; exact hp ⟨e1.symm, e2.symm⟩)]
theorem crlf_short (l : List UInt8) (i : Nat) (h : l.length ≤ i + 1) : crlf (l.drop i) = none := by
  cases hc : crlf (l.drop i) with
  | none => rfl
  | some j => have := (crlf_spec hc).1; simp at this; omega
def lenCR (l : List UInt8) : Nat := if 0 < l.length ∧ byteAt l (l.length - 1) = 13 then l.length - 1 else l.length
def httpL : List UInt8 := [72, 84, 84, 80, 47, 49, 46]
def statN (l : List UInt8) : Nat := 100 * ((byteAt l 9).toNat - 48) + 10 * ((byteAt l 10).toNat - 48) + ((byteAt l 11).toNat - 48)
/-- the status of a first line; 0: it is none -/
def statF (l : List UInt8) : Nat :=
  if decide (13 ≤ l.length) && (l.take 7 == httpL) && (byteAt l 8 == 32) && (byteAt l 12 == 32) && (digC (byteAt l 7) && digC (byteAt l 9) && digC (byteAt l 10) && digC (byteAt l 11)) && textB (l.drop 13) then
    (if 100 ≤ statN l ∧ statN l ≤ 599 then statN l else 0) else 0
structure Hd where
  st : Nat
  ns : List (List UInt8)
  vs : List (List UInt8)
inductive HR where
  | fail (e : Nat)
  | done (h : Hd) (n : Nat)
  | on (h : Hd) (n : Nat)
def trimF (l : List UInt8) : List UInt8 := Lib.trimS l [32, 9]
def nameL (l : List UInt8) : List UInt8 := l.takeWhile (· != 58)
def fieldF (l : List UInt8) (h : Hd) (m : Nat) : HR :=
  if (nameL l).length = l.length ∨ tokB (nameL l) = false ∨ textB (l.drop ((nameL l).length + 1)) = false then .fail 170
  else if 32 ≤ h.ns.length then .fail 171
  else .on ⟨h.st, h.ns ++ [lowL (nameL l)], h.vs ++ [trimF (l.drop ((nameL l).length + 1))]⟩ m
def turnF (s : List UInt8) (h : Hd) (n : Nat) : HR :=
  match crlf (s.drop n) with
  | none => .fail (if lenCR (s.drop n) ≤ 256 ∧ s.length < 2048 then 172 else 171)
  | some i =>
    if 256 < i ∨ 2048 < n + i + 2 then .fail 171
    else if h.st = 0 then (if statF ((s.drop n).take i) = 0 then .fail 170 else .on ⟨statF ((s.drop n).take i), h.ns, h.vs⟩ (n + i + 2))
    else if i = 0 then .done h (n + 2)
    else fieldF ((s.drop n).take i) h (n + i + 2)
def runF (s : List UInt8) : Nat → Hd → Nat → HR
  | 0, _, _ => .fail 171
  | f + 1, h, n => match turnF s h n with | .on h' n' => runF s f h' n' | r => r
def zeroH : Hd := ⟨0, [], []⟩
def parseF (s : List UInt8) : HR := runF s 3000 zeroH 0
def HR.head : HR → Hd | .done h _ => h | _ => zeroH
def HR.many : HR → Nat | .done _ n => n | _ => 0
def HR.err : HR → Nat | .fail e => e | _ => 0
theorem takeWhile_le {α : Type} (p : α → Bool) (l : List α) : (l.takeWhile p).length ≤ l.length := by
  induction l with
  | nil => simp
  | cons a l ih => unfold List.takeWhile; split <;> simp <;> omega
theorem fieldF_cases (l : List UInt8) (h : Hd) (m : Nat) : fieldF l h m = .fail 170 ∨ fieldF l h m = .fail 171 ∨
    (fieldF l h m = .on ⟨h.st, h.ns ++ [lowL (nameL l)], h.vs ++ [trimF (l.drop ((nameL l).length + 1))]⟩ m ∧ tokB (nameL l) = true ∧ h.ns.length < 32) := by
  unfold fieldF
  split
  · exact .inl rfl
  · rename_i h1
    split
    · exact .inr (.inl rfl)
    · refine .inr (.inr ⟨rfl, ?_, by omega⟩)
      cases ht : tokB (nameL l) with
      | true => rfl
      | false => exact absurd (.inr (.inl ht)) h1
theorem fieldF_done (l : List UInt8) (h h' : Hd) (m m' : Nat) : fieldF l h m ≠ .done h' m' := by
  rcases fieldF_cases l h m with e | e | ⟨e, _⟩ <;> rw [e] <;> intro x <;> cases x
/-- what a turn that goes on says -/
theorem turnF_on {s : List UInt8} {h h' : Hd} {n n' : Nat} (ht : turnF s h n = .on h' n') : ∃ i, crlf (s.drop n) = some i ∧ i ≤ 256 ∧ n' = n + i + 2 ∧ n' ≤ 2048 ∧ n' ≤ s.length := by
  unfold turnF at ht
  cases hc : crlf (s.drop n) with
  | none => rw [hc] at ht; cases ht
  | some i =>
    rw [hc] at ht
    simp only at ht
    have hs := (crlf_spec hc).1
    simp at hs
    split at ht
    · cases ht
    · rename_i hn
      refine ⟨i, rfl, by omega, ?_⟩
      have hm : n' = n + i + 2 := by
        split at ht
        · split at ht
          · cases ht
          · cases ht; rfl
        · split at ht
          · cases ht
          · rcases fieldF_cases ((s.drop n).take i) h (n + i + 2) with e | e | ⟨e, _⟩ <;> rw [e] at ht <;> cases ht
            rfl
      exact ⟨hm, by omega, by omega⟩
theorem turnF_done {s : List UInt8} {h h' : Hd} {n n' : Nat} (ht : turnF s h n = .done h' n') : crlf (s.drop n) = some 0 ∧ n' = n + 2 ∧ h' = h ∧ h.st ≠ 0 ∧ n' ≤ 2048 ∧ n' ≤ s.length := by
  unfold turnF at ht
  cases hc : crlf (s.drop n) with
  | none => rw [hc] at ht; cases ht
  | some i =>
    rw [hc] at ht
    simp only at ht
    have hs := (crlf_spec hc).1
    simp at hs
    split at ht
    · cases ht
    · split at ht
      · split at ht <;> cases ht
      · split at ht
        · rename_i h1 h2 h3
          cases ht
          subst h3
          exact ⟨rfl, rfl, rfl, h2, by omega, by omega⟩
        · exact absurd ht (fieldF_done _ _ _ _ _)
theorem runF_ge {s : List UInt8} : ∀ (f : Nat) {h h' : Hd} {n m : Nat}, runF s f h n = .done h' m → n + 2 ≤ m ∧ m ≤ 2048 ∧ m ≤ s.length
  | 0, _, _, _, _, hr => by cases hr
  | f + 1, h, h', n, m, hr => by
    unfold runF at hr
    cases ht : turnF s h n with
    | fail e => rw [ht] at hr; cases hr
    | done h1 n1 =>
      rw [ht] at hr; cases hr
      have := turnF_done ht; omega
    | on h1 n1 =>
      rw [ht] at hr
      obtain ⟨i, _, _, e, _⟩ := turnF_on ht
      have := runF_ge f hr
      omega
theorem runF_on (s : List UInt8) : ∀ (f : Nat) (h h' : Hd) (n m : Nat), runF s f h n ≠ .on h' m
  | 0, _, _, _, _ => by intro e; cases e
  | f + 1, h, h', n, m => by
    unfold runF
    cases ht : turnF s h n with
    | fail e => intro e; cases e
    | done h1 n1 => intro e; cases e
    | on h1 n1 => exact runF_on s f _ _ _ _
theorem lenCR_take (l : List UInt8) (k : Nat) (h : lenCR l ≤ 256) : lenCR (l.take k) ≤ 256 := by
  unfold lenCR at h ⊢
  by_cases hk : l.length ≤ k
  · rw [List.take_of_length_le hk]; exact h
  · have : (l.take k).length = k := by simp; omega
    rw [this]
    split at h
    · split <;> omega
    · split <;> omega
/-- a line that is cut short -/
theorem lenCR_cut {l : List UInt8} {i k : Nat} (h : crlf l = some i) (hk : k < i + 2) (hi : i ≤ 256) : lenCR (l.take k) ≤ 256 := by
  obtain ⟨h1, h2, _⟩ := crlf_spec h
  have hl : (l.take k).length = k := by simp; omega
  unfold lenCR
  rw [hl]
  by_cases hk1 : k = i + 1
  · subst hk1
    have : byteAt (l.take (i + 1)) (i + 1 - 1) = 13 := by
      rw [← h2]; unfold byteAt; simp [List.getD_eq_getElem?_getD]
    rw [if_pos ⟨by omega, this⟩]; omega
  · split <;> omega
/-- THE CUT: a head of a text cut short -/
theorem runF_cut (s : List UInt8) (k : Nat) (hk : k ≤ s.length) : ∀ (f : Nat) (h : Hd) (n : Nat), n ≤ k →
    (runF (s.take k) f h n = runF s f h n ∧ ∀ h' m, runF s f h n = .done h' m → m ≤ k) ∨ (runF (s.take k) f h n = .fail 172 ∧ ∀ h' m, runF s f h n = .done h' m → k < m)
  | 0, h, n, _ => .inl ⟨rfl, fun _ _ e => by cases e⟩
  | f + 1, h, n, hn => by
    have hd : (s.take k).drop n = (s.drop n).take (k - n) := by rw [List.drop_take]
    have hl : (s.take k).length = k := by simp; omega
    cases hc : crlf (s.drop n) with
    | none =>
      have hc2 : crlf ((s.take k).drop n) = none := by rw [hd]; exact crlf_none_take _ hc
      have e1 : turnF s h n = .fail (if lenCR (s.drop n) ≤ 256 ∧ s.length < 2048 then 172 else 171) := by unfold turnF; rw [hc]
      have e2 : turnF (s.take k) h n = .fail (if lenCR ((s.drop n).take (k - n)) ≤ 256 ∧ k < 2048 then 172 else 171) := by unfold turnF; rw [hc2, hd, hl]
      have r1 : runF s (f + 1) h n = .fail (if lenCR (s.drop n) ≤ 256 ∧ s.length < 2048 then 172 else 171) := by unfold runF; rw [e1]
      have r2 : runF (s.take k) (f + 1) h n = .fail (if lenCR ((s.drop n).take (k - n)) ≤ 256 ∧ k < 2048 then 172 else 171) := by unfold runF; rw [e2]
      rw [r1, r2]
      by_cases hb : lenCR ((s.drop n).take (k - n)) ≤ 256 ∧ k < 2048
      · rw [if_pos hb]; exact .inr ⟨rfl, fun _ _ e => by cases e⟩
      · rw [if_neg hb]
        by_cases ha : lenCR (s.drop n) ≤ 256 ∧ s.length < 2048
        · exact absurd ⟨lenCR_take _ _ ha.1, by omega⟩ hb
        · rw [if_neg ha]; exact .inl ⟨rfl, fun _ _ e => by cases e⟩
    | some i =>
      have hs := (crlf_spec hc).1
      simp at hs
      have hct := crlf_take (k - n) hc
      by_cases hik : i + 2 ≤ k - n
      · rw [if_pos hik] at hct
        have ht : turnF (s.take k) h n = turnF s h n := by
          have e3 : ((s.drop n).take (k - n)).take i = (s.drop n).take i := by rw [List.take_take]; congr 1; omega
          unfold turnF
          rw [hd, hct, hc]
          simp only [e3]
        have e1 : runF (s.take k) (f + 1) h n = (match turnF s h n with | .on h' n' => runF (s.take k) f h' n' | r => r) := by rw [← ht]; rfl
        have e2 : runF s (f + 1) h n = (match turnF s h n with | .on h' n' => runF s f h' n' | r => r) := rfl
        cases hr : turnF s h n with
        | fail e => rw [e1, e2, hr]; exact .inl ⟨rfl, fun _ _ e => by cases e⟩
        | done h1 n1 =>
          rw [e1, e2, hr]
          refine .inl ⟨rfl, fun _ _ e => ?_⟩
          cases e
          obtain ⟨h0, e0, _⟩ := turnF_done hr
          rw [hc] at h0; cases h0; omega
        | on h1 n1 =>
          rw [e1, e2, hr]
          obtain ⟨j, hj, _, e0, _⟩ := turnF_on hr
          rw [hc] at hj; cases hj
          exact runF_cut s k hk f h1 n1 (by omega)
      · rw [if_neg hik] at hct
        have r2 : runF (s.take k) (f + 1) h n = .fail (if lenCR ((s.drop n).take (k - n)) ≤ 256 ∧ k < 2048 then 172 else 171) := by
          unfold runF turnF; rw [hd, hct, hl]
        by_cases hb : lenCR ((s.drop n).take (k - n)) ≤ 256 ∧ k < 2048
        · rw [if_pos hb] at r2
          refine .inr ⟨r2, fun h' m e => ?_⟩
          unfold runF at e
          cases hr : turnF s h n with
          | fail e' => rw [hr] at e; cases e
          | done h1 n1 =>
            rw [hr] at e; cases e
            obtain ⟨h0, e0, _⟩ := turnF_done hr
            rw [hc] at h0; cases h0; omega
          | on h1 n1 =>
            rw [hr] at e
            obtain ⟨j, hj, _, e0, _⟩ := turnF_on hr
            rw [hc] at hj; cases hj
            have := runF_ge f e
            omega
        · rw [if_neg hb] at r2
          have hbig : 256 < i ∨ 2048 < n + i + 2 := by
            by_cases hi : i ≤ 256
            · right
              have := lenCR_cut hc (by omega : k - n < i + 2) hi
              by_cases hk2 : k < 2048
              · exact absurd ⟨this, hk2⟩ hb
              · omega
            · left; omega
          have r1 : runF s (f + 1) h n = .fail 171 := by
            unfold runF turnF; rw [hc]; simp only; rw [if_pos hbig]
          exact .inl ⟨by rw [r1, r2], fun _ _ e => by rw [r1] at e; cases e⟩
theorem parse_cut (s : List UInt8) (k : Nat) (hk : k ≤ s.length) :
    (parseF (s.take k) = parseF s ∧ ∀ h' m, parseF s = .done h' m → m ≤ k) ∨ (parseF (s.take k) = .fail 172 ∧ ∀ h' m, parseF s = .done h' m → k < m) :=
  runF_cut s k hk 3000 zeroH 0 (Nat.zero_le _)
theorem parse_append {s : List UInt8} (more : List UInt8) {h : Hd} {n : Nat} (hp : parseF s = .done h n) : parseF (s ++ more) = .done h n := by
  have ht : (s ++ more).take s.length = s := by simp
  rcases parse_cut (s ++ more) s.length (by simp) with ⟨h1, _⟩ | ⟨h1, _⟩
  · rw [ht] at h1; rw [← h1, hp]
  · rw [ht, hp] at h1; cases h1
end
section
/-! ### Texts that may be: visible, seen, text, ok -/
theorem allTake (p : UInt8 → Bool) (l : List UInt8) (k : Nat) (h : k < l.length) : (l.take (k + 1)).all p = ((l.take k).all p && p (byteAt l k)) := by
  rw [List.take_succ_eq_append_getElem h, List.all_append, byteAt_eq l k h]; simp
theorem all_hit {p : UInt8 → Bool} (l : List UInt8) (k : Nat) (h : k < l.length) (hp : p (byteAt l k) = false) : l.all p = false := by
  rw [byteAt_eq l k h] at hp
  rw [List.all_eq_false]; exact ⟨l[k], List.getElem_mem _, by simp [hp]⟩
theorem byteAt_lt (l : List UInt8) (k : Nat) : ((byteAt l k).toNat : Int) < 256 := by have := (byteAt l k).toNat_lt; omega
set_option maxHeartbeats 4000000
set_option maxRecDepth 100000
theorem vis_any (s : List UInt8) (w : World) (hs : s.length ≤ 9223372036854775807) :
    Calls Tryz.prog 47 #[S s] w fun e w' => e = .returned (.bool (visB s)) ∧ w = w' := by
  have hs' : (s.length : Int) ≤ 9223372036854775807 := by omega
  go_enter Tryz.func47, Tryz.ntmps47
  go_wp2_with (fail)
  go_loop [3, 6] (fun _ i => ∃ k : Nat, k ≤ s.length ∧ i = I k ∧ (s.take k).all visC = true) (fun _ i => s.length - (intOf i).toNat)
  case atStart => exact ⟨0, by omega, rfl, rfl⟩
  case round =>
    obtain ⟨k, hk, rfl, hall⟩ := hrel
    have HA := Lib.hid hall
    clear hall
    by_cases hlt : k < s.length
    · have hlt' : (k : Int) < s.length := by omega
      have HT := Lib.hid (allTake visC s k hlt)
      have HH := Lib.hid (all_hit (p := visC) s k hlt)
      obtain ⟨c, hc⟩ : ∃ c, byteAt s k = c := ⟨_, rfl⟩
      rw [hc] at HT HH
      have hcl : (0 : Int) ≤ c.toNat := by omega
      by_cases h1 : 33 ≤ c.toNat ∧ c.toNat ≤ 126
      · have hv : visC c = true := by simp [visC, h1]
        obtain ⟨h1, h2⟩ := h1
        have h1' : ¬ (c.toNat : Int) < 33 := by omega
        have h2' : ¬ (c.toNat : Int) > 126 := by omega
        have HV := Lib.hid hv
        clear hv
        go_wp2_with (fail)
        go_round
        case rel => exact ⟨k + 1, by omega, by go_num, by rw [HT.out, HA.out, HV.out]; rfl⟩
        case measure => simp [intOf]; omega
      · have hv : visC c = false := by unfold visC; rw [Bool.and_eq_false_iff, decide_eq_false_iff_not, decide_eq_false_iff_not]; omega
        have HF : Hid (visB s = false) := Lib.hid (by unfold visB; rw [HH.out hv]; rfl)
        clear hv
        go_wp2_with (fail)
        all_goals first
          | (exfalso; omega)
          | (go_ret; exact ⟨ret_B HF.out.symm, rfl⟩)
    · have hlt' : ¬ (k : Int) < s.length := by omega
      have ht : s.take k = s := List.take_of_length_le (by omega)
      have ha := HA.out
      rw [ht] at ha
      have HF : Hid (visB s = (decide (1 ≤ s.length) && decide (s.length ≤ 64))) := Lib.hid (by unfold visB; rw [ha]; simp)
      clear ht ha
      by_cases hn : s = []
      · subst hn
        go_wp2_with (fail)
        go_ret
        exact ⟨ret_B (by rw [HF.out]; rfl), rfl⟩
      · have hp : 1 ≤ s.length := List.length_pos_iff.2 hn
        have hse : (!s.isEmpty) = true := by simpa using hn
        clear hn
        by_cases h64 : s.length ≤ 64
        · have h64' : (s.length : Int) ≤ 64 := by omega
          go_wp2_with (fail)
          go_ret
          exact ⟨ret_B (by rw [HF.out]; simp; omega), rfl⟩
        · have h64' : ¬ (s.length : Int) ≤ 64 := by omega
          go_wp2_with (fail)
          go_ret
          exact ⟨ret_B (by rw [HF.out]; simp; omega), rfl⟩
theorem seen_any (s : List UInt8) (w : World) (hs : s.length ≤ 9223372036854775807) :
    Calls Tryz.prog 64 #[S s] w fun e w' => e = .returned (.bool (visB s)) ∧ w = w' := by
  have hs' : (s.length : Int) ≤ 9223372036854775807 := by omega
  go_enter Tryz.func64, Tryz.ntmps64
  go_wp2_with (fail)
  go_loop [3] (fun i => ∃ k : Nat, k ≤ s.length ∧ i = I k ∧ (s.take k).all visC = true) (fun i => s.length - (intOf i).toNat)
  case atStart => exact ⟨0, by omega, rfl, rfl⟩
  case round =>
    obtain ⟨k, hk, rfl, hall⟩ := hrel
    have HA := Lib.hid hall
    clear hall
    by_cases hlt : k < s.length
    · have hlt' : (k : Int) < s.length := by omega
      have HT := Lib.hid (allTake visC s k hlt)
      have HH := Lib.hid (all_hit (p := visC) s k hlt)
      obtain ⟨c, hc⟩ : ∃ c, byteAt s k = c := ⟨_, rfl⟩
      rw [hc] at HT HH
      have hcl : (0 : Int) ≤ c.toNat := by omega
      by_cases h1 : 33 ≤ c.toNat ∧ c.toNat ≤ 126
      · have hv : visC c = true := by simp [visC, h1]
        obtain ⟨h1, h2⟩ := h1
        have h1' : ¬ (c.toNat : Int) ≤ 32 := by omega
        have h2' : ¬ (c.toNat : Int) ≥ 127 := by omega
        have HV := Lib.hid hv
        clear hv
        go_wp2_with (fail)
        go_round
        case rel => exact ⟨k + 1, by omega, by go_num, by rw [HT.out, HA.out, HV.out]; rfl⟩
        case measure => simp [intOf]; omega
      · have hv : visC c = false := by unfold visC; rw [Bool.and_eq_false_iff, decide_eq_false_iff_not, decide_eq_false_iff_not]; omega
        have HF : Hid (visB s = false) := Lib.hid (by unfold visB; rw [HH.out hv]; rfl)
        clear hv
        go_wp2_with (fail)
        all_goals first
          | (exfalso; omega)
          | (go_ret; exact ⟨ret_B HF.out.symm, rfl⟩)
    · have hlt' : ¬ (k : Int) < s.length := by omega
      have ht : s.take k = s := List.take_of_length_le (by omega)
      have ha := HA.out
      rw [ht] at ha
      have HF : Hid (visB s = (decide (1 ≤ s.length) && decide (s.length ≤ 64))) := Lib.hid (by unfold visB; rw [ha]; simp)
      clear ht ha
      by_cases hn : 1 ≤ s.length
      · have hn' : (s.length : Int) ≥ 1 := by omega
        by_cases h64 : s.length ≤ 64
        · have h64' : (s.length : Int) ≤ 64 := by omega
          go_wp2_with (fail)
          go_ret
          exact ⟨ret_B (by rw [HF.out]; simp; omega), rfl⟩
        · have h64' : ¬ (s.length : Int) ≤ 64 := by omega
          go_wp2_with (fail)
          go_ret
          exact ⟨ret_B (by rw [HF.out]; simp; omega), rfl⟩
      · have hn' : ¬ (s.length : Int) ≥ 1 := by omega
        go_wp2_with (fail)
        go_ret
        exact ⟨ret_B (by rw [HF.out]; simp; omega), rfl⟩
theorem textC_ways (c : UInt8) : (textC c = true ∧ ((c.toNat : Int) != 9) = false ∧ (c.toNat : Int) < 32 ∧ ((c.toNat : Int) == 127) = false) ∨ (textC c = true ∧ ((c.toNat : Int) != 9) = true ∧ ¬ (c.toNat : Int) < 32 ∧ ((c.toNat : Int) == 127) = false) ∨
    (textC c = false ∧ ((c.toNat : Int) != 9) = true ∧ (c.toNat : Int) < 32 ∧ ((c.toNat : Int) == 127) = false) ∨ (textC c = false ∧ ((c.toNat : Int) != 9) = true ∧ ¬ (c.toNat : Int) < 32 ∧ ((c.toNat : Int) == 127) = true) := by
  unfold textC
  by_cases h9 : c.toNat = 9
  · left; rw [h9]; decide
  · have e9 : ((c.toNat : Int) != 9) = true := by rw [bne_iff_ne]; omega
    have f9 : (c.toNat == 9) = false := by rw [beq_eq_false_iff_ne]; exact h9
    by_cases h32 : c.toNat < 32
    · have h7 : ((c.toNat : Int) == 127) = false := by rw [beq_eq_false_iff_ne]; omega
      right; right; left
      refine ⟨by rw [f9]; simp; omega, e9, by omega, h7⟩
    · by_cases h7 : c.toNat = 127
      · right; right; right
        refine ⟨by rw [f9, h7]; rfl, e9, by omega, by rw [beq_iff_eq]; omega⟩
      · right; left
        refine ⟨by rw [f9]; simp; omega, e9, by omega, by rw [beq_eq_false_iff_ne]; omega⟩
theorem text_any (s : List UInt8) (w : World) (hs : s.length ≤ 9223372036854775807) :
    Calls Tryz.prog 57 #[S s] w fun e w' => e = .returned (.bool (textB s)) ∧ w = w' := by
  have hs' : (s.length : Int) ≤ 9223372036854775807 := by omega
  go_enter Tryz.func57, Tryz.ntmps57
  go_wp2_with (fail)
  go_loop [3, 6] (fun _ i => ∃ k : Nat, k ≤ s.length ∧ i = I k ∧ (s.take k).all textC = true) (fun _ i => s.length - (intOf i).toNat)
  case atStart => exact ⟨0, by omega, rfl, rfl⟩
  case round =>
    obtain ⟨k, hk, rfl, hall⟩ := hrel
    have HA := Lib.hid hall
    clear hall
    by_cases hlt : k < s.length
    · have hlt' : (k : Int) < s.length := by omega
      have HT := Lib.hid (allTake textC s k hlt)
      have HH := Lib.hid (all_hit (p := textC) s k hlt)
      obtain ⟨c, hc⟩ : ∃ c, byteAt s k = c := ⟨_, rfl⟩
      rw [hc] at HT HH
      have hcl : (0 : Int) ≤ c.toNat := by omega
      rcases textC_ways c with ⟨hv, h1, h2, h3⟩ | ⟨hv, h1, h2, h3⟩ | ⟨hv, h1, h2, h3⟩ | ⟨hv, h1, h2, h3⟩
      · have HV := Lib.hid hv
        clear hv
        go_wp2_with (fail)
        go_round
        case rel => exact ⟨k + 1, by omega, by go_num, by rw [HT.out, HA.out, HV.out]; rfl⟩
        case measure => simp [intOf]; omega
      · have HV := Lib.hid hv
        clear hv
        go_wp2_with (fail)
        go_round
        case rel => exact ⟨k + 1, by omega, by go_num, by rw [HT.out, HA.out, HV.out]; rfl⟩
        case measure => simp [intOf]; omega
      · have HF : Hid (textB s = false) := Lib.hid (HH.out hv)
        clear hv
        go_wp2_with (fail)
        all_goals (go_ret; exact ⟨ret_B HF.out.symm, rfl⟩)
      · have HF : Hid (textB s = false) := Lib.hid (HH.out hv)
        clear hv
        go_wp2_with (fail)
        all_goals (go_ret; exact ⟨ret_B HF.out.symm, rfl⟩)
    · have hlt' : ¬ (k : Int) < s.length := by omega
      have HF : Hid (textB s = true) := Lib.hid (by have ha := HA.out; rw [List.take_of_length_le (by omega)] at ha; exact ha)
      go_wp2_with (fail)
      go_ret
      exact ⟨ret_B HF.out.symm, rfl⟩
theorem ok_any (s : List UInt8) (w : World) (hs : s.length ≤ 9223372036854775807) :
    Calls Tryz.prog 68 #[S s] w fun e w' => e = .returned (.bool (textB s)) ∧ w = w' := by
  have hs' : (s.length : Int) ≤ 9223372036854775807 := by omega
  go_enter Tryz.func68, Tryz.ntmps68
  go_wp2_with (fail)
  go_loop [3] (fun i => ∃ k : Nat, k ≤ s.length ∧ i = I k ∧ (s.take k).all textC = true) (fun i => s.length - (intOf i).toNat)
  case atStart => exact ⟨0, by omega, rfl, rfl⟩
  case round =>
    obtain ⟨k, hk, rfl, hall⟩ := hrel
    have HA := Lib.hid hall
    clear hall
    by_cases hlt : k < s.length
    · have hlt' : (k : Int) < s.length := by omega
      have HT := Lib.hid (allTake textC s k hlt)
      have HH := Lib.hid (all_hit (p := textC) s k hlt)
      obtain ⟨c, hc⟩ : ∃ c, byteAt s k = c := ⟨_, rfl⟩
      rw [hc] at HT HH
      have hcl : (0 : Int) ≤ c.toNat := by omega
      rcases textC_ways c with ⟨hv, h1, h2, h3⟩ | ⟨hv, h1, h2, h3⟩ | ⟨hv, h1, h2, h3⟩ | ⟨hv, h1, h2, h3⟩
      · have HV := Lib.hid hv
        clear hv
        go_wp2_with (fail)
        go_round
        case rel => exact ⟨k + 1, by omega, by go_num, by rw [HT.out, HA.out, HV.out]; rfl⟩
        case measure => simp [intOf]; omega
      · have HV := Lib.hid hv
        clear hv
        go_wp2_with (fail)
        go_round
        case rel => exact ⟨k + 1, by omega, by go_num, by rw [HT.out, HA.out, HV.out]; rfl⟩
        case measure => simp [intOf]; omega
      · have HF : Hid (textB s = false) := Lib.hid (HH.out hv)
        clear hv
        go_wp2_with (fail)
        all_goals (go_ret; exact ⟨ret_B HF.out.symm, rfl⟩)
      · have HF : Hid (textB s = false) := Lib.hid (HH.out hv)
        clear hv
        go_wp2_with (fail)
        all_goals (go_ret; exact ⟨ret_B HF.out.symm, rfl⟩)
    · have hlt' : ¬ (k : Int) < s.length := by omega
      have HF : Hid (textB s = true) := Lib.hid (by have ha := HA.out; rw [List.take_of_length_le (by omega)] at ha; exact ha)
      go_wp2_with (fail)
      go_ret
      exact ⟨ret_B HF.out.symm, rfl⟩
theorem digC_yes {c : UInt8} (h : digC c = true) : 48 ≤ c.toNat ∧ c.toNat ≤ 57 := by simpa [digC] using h
theorem digC_no {c : UInt8} (h : digC c = false) : ¬ (48 ≤ c.toNat ∧ c.toNat ≤ 57) := by simp [digC] at h; omega
theorem digit_any (c : UInt8) (w : World) :
    Calls Tryz.prog 101 #[B c] w fun e w' => e = .returned (.bool (digC c)) ∧ w = w' := by
  by_cases h1 : (c.toNat : Int) ≥ 48
  · by_cases h2 : (c.toNat : Int) ≤ 57
    · go_enter Tryz.func101, Tryz.ntmps101
      go_wp2_with (fail)
      go_ret
      exact ⟨ret_B (by unfold digC; simp; omega), rfl⟩
    · go_enter Tryz.func101, Tryz.ntmps101
      go_wp2_with (fail)
      go_ret
      exact ⟨ret_B (by unfold digC; simp; omega), rfl⟩
  · go_enter Tryz.func101, Tryz.ntmps101
    go_wp2_with (fail)
    go_ret
    exact ⟨ret_B (by unfold digC; simp; omega), rfl⟩
theorem digit_at (c : UInt8) (w : World) (b : Bool) (h : digC c = b) : Calls Tryz.prog 101 #[B c] w fun e w' => e = .returned (.bool b) ∧ w = w' := h ▸ digit_any c w
end
section
set_option maxHeartbeats 8000000
set_option maxRecDepth 100000
/-! ### Numbers of digits; the reference's token -/
def digsN (l : List UInt8) : Nat := l.foldl (fun n c => 10 * n + (c.toNat - 48)) 0
theorem digsN_snoc (l : List UInt8) (c : UInt8) : digsN (l ++ [c]) = 10 * digsN l + (c.toNat - 48) := by simp [digsN]
def numZ (l : List UInt8) : Int := if l.all digC then (digsN l : Int) else -1
theorem take_byteAt (l : List UInt8) (k : Nat) (h : k < l.length) : l.take (k + 1) = l.take k ++ [byteAt l k] := by
  rw [List.take_succ_eq_append_getElem h, byteAt_eq l k h]
theorem digsN_take_bd (l : List UInt8) (h : l.all digC = true) : ∀ k, k ≤ l.length → digsN (l.take k) < 10 ^ k
  | 0, _ => by simp [digsN]
  | k + 1, hk => by
    have ih := digsN_take_bd l h k (by omega)
    have hd := digC_yes ((List.all_eq_true.1 h) _ (List.getElem_mem (by omega : k < l.length)))
    rw [take_byteAt l k (by omega), digsN_snoc, Nat.pow_succ, byteAt_eq l k (by omega)]
    omega
theorem digsN_bd (l : List UInt8) (h : l.all digC = true) : digsN l < 10 ^ l.length := by
  have := digsN_take_bd l h l.length (Nat.le_refl _)
  rwa [List.take_length] at this
theorem pow10_3 (k : Nat) (h : k ≤ 3) : 10 ^ k ≤ 1000 := by
  have : k = 0 ∨ k = 1 ∨ k = 2 ∨ k = 3 := by omega
  rcases this with rfl | rfl | rfl | rfl <;> decide
theorem number_any (l : List UInt8) (w : World) (hl : l.length ≤ 3) (r : Int) (hr : numZ l = r) :
    Calls Tryz.prog 83 #[S l] w fun e w' => e = .returned (I r) ∧ w = w' := by
  have hl' : (l.length : Int) ≤ 3 := by omega
  have HR := Lib.hid hr
  clear hr
  go_enter Tryz.func83, Tryz.ntmps83
  go_wp2_with (fail)
  go_loop [3, 4, 7] (fun n _ i => ∃ k : Nat, k ≤ l.length ∧ i = I k ∧ n = I (digsN (l.take k) : Nat) ∧ (l.take k).all digC = true) (fun _ _ i => l.length - (intOf i).toNat)
  case atStart => exact ⟨0, by omega, rfl, rfl, rfl⟩
  case round =>
    obtain ⟨k, hk, rfl, rfl, hall⟩ := hrel
    have hbd := digsN_bd (l.take k) hall
    have hp := pow10_3 (l.take k).length (by simp; omega)
    have HA := Lib.hid hall
    clear hall
    obtain ⟨d, hd⟩ : ∃ d, digsN (l.take k) = d := ⟨_, rfl⟩
    rw [hd] at hbd ⊢
    have hb1 : (d : Int) < 1000 := by omega
    have HD := Lib.hid hd
    clear hd hbd hp
    by_cases hlt : k < l.length
    · have hlt' : (k : Int) < l.length := by omega
      have HT := Lib.hid (allTake digC l k hlt)
      have HH := Lib.hid (all_hit (p := digC) l k hlt)
      have HS := Lib.hid (take_byteAt l k hlt)
      obtain ⟨c, hc⟩ : ∃ c, byteAt l k = c := ⟨_, rfl⟩
      rw [hc] at HT HH HS
      have hcl := byteAt_lt l k
      rw [hc] at hcl
      cases hdc : digC c with
      | true =>
        obtain ⟨h1, h2⟩ := digC_yes hdc
        have h1' : (48 : Int) ≤ c.toNat := by omega
        have h2' : (c.toNat : Int) ≤ 57 := by omega
        have HV := Lib.hid hdc
        clear hdc
        go_wp2_with (fail)
        go_round
        case rel => exact ⟨k + 1, by omega, by go_num, by rw [HS.out, digsN_snoc, HD.out]; go_num, by rw [HT.out, HA.out, HV.out]; rfl⟩
        case measure => simp [intOf]; omega
      | false =>
        have h12 := digC_no hdc
        have HF : Hid (r = -1) := Lib.hid (by rw [← HR.out]; unfold numZ; rw [HH.out hdc]; rfl)
        clear hdc
        go_wp2_with (fail)
        all_goals first
          | (exfalso; omega)
          | (go_ret; exact ⟨ret_I (by rw [HF.out] <;> rfl), rfl⟩)
    · have hlt' : ¬ (k : Int) < l.length := by omega
      have HF : Hid (r = (d : Int)) := Lib.hid (by
        have ha := HA.out
        have hb := HD.out
        rw [List.take_of_length_le (by omega)] at ha hb
        rw [← HR.out, ← hb]; unfold numZ; rw [if_pos ha])
      go_wp2_with (fail)
      go_ret
      exact ⟨ret_I HF.out.symm, rfl⟩
def signsR : List UInt8 := [33, 35, 36, 37, 38, 39, 42, 43, 45, 46, 94, 95, 124, 126, 96]
theorem tok_ref_all : ∀ n, n < 256 → tokC (UInt8.ofNat n) = (digC (UInt8.ofNat n) || letC (UInt8.ofNat n) || signsR.contains (UInt8.ofNat n)) := by decide
theorem tok_ref (c : UInt8) : tokC c = (digC c || letC c || signsR.contains c) := by
  have := tok_ref_all c.toNat c.toNat_lt
  rwa [UInt8.ofNat_toNat] at this
theorem contains_take (l : List UInt8) (c : UInt8) (j : Nat) (h : j < l.length) : (l.take (j + 1)).contains c = ((l.take j).contains c || (c == byteAt l j)) := by
  rw [take_byteAt l j h, Bool.eq_iff_iff]
  simp
theorem letC_cases (c : UInt8) : (letC c = true ∧ (c.toNat : Int) ≥ 97 ∧ (c.toNat : Int) ≤ 122) ∨ (letC c = true ∧ ¬ (c.toNat : Int) ≥ 97 ∧ (c.toNat : Int) ≥ 65 ∧ (c.toNat : Int) ≤ 90) ∨
    (letC c = false ∧ (c.toNat : Int) ≥ 97 ∧ ¬ (c.toNat : Int) ≤ 122 ∧ (c.toNat : Int) ≥ 65 ∧ ¬ (c.toNat : Int) ≤ 90) ∨ (letC c = false ∧ ¬ (c.toNat : Int) ≥ 97 ∧ (c.toNat : Int) ≥ 65 ∧ ¬ (c.toNat : Int) ≤ 90) ∨ (letC c = false ∧ ¬ (c.toNat : Int) ≥ 97 ∧ ¬ (c.toNat : Int) ≥ 65) := by
  unfold letC
  by_cases h1 : 97 ≤ c.toNat
  · by_cases h2 : c.toNat ≤ 122
    · left; refine ⟨by simp; omega, by omega, by omega⟩
    · right; right; left; refine ⟨by simp; omega, by omega, by omega, by omega, by omega⟩
  · by_cases h3 : 65 ≤ c.toNat
    · by_cases h4 : c.toNat ≤ 90
      · right; left; refine ⟨by simp; omega, by omega, by omega, by omega⟩
      · right; right; right; left; refine ⟨by simp; omega, by omega, by omega, by omega⟩
    · right; right; right; right; refine ⟨by simp; omega, by omega, by omega⟩
theorem rtoken_any (s : List UInt8) (w : World) (hs : s.length ≤ 9223372036854775807) :
    Calls Tryz.prog 67 #[S s] w fun e w' => e = .returned (.bool (tokB s)) ∧ Kept [] w w' := by
  have hs' : (s.length : Int) ≤ 9223372036854775807 := by omega
  go_enter Tryz.func67, Tryz.ntmps67
  go_wp2_with (fail)
  go_loopw [4, 5, 6] (fun i _ _ wr => ∃ k : Nat, k ≤ s.length ∧ i = I k ∧ (s.take k).all tokC = true ∧ Kept [] w wr) (fun i _ _ _ => s.length - (intOf i).toNat)
  case atStart => exact ⟨0, by omega, rfl, rfl, Kept.refl _ _⟩
  case round =>
    obtain ⟨k, hk, rfl, hall, hkw⟩ := hrel
    have HA := Lib.hid hall
    have HK := Lib.hid hkw
    clear hall hkw
    by_cases hlt : k < s.length
    · have hlt' : (k : Int) < s.length := by omega
      have HT := Lib.hid (allTake tokC s k hlt)
      have HH := Lib.hid (all_hit (p := tokC) s k hlt)
      obtain ⟨c, hc⟩ : ∃ c, byteAt s k = c := ⟨_, rfl⟩
      rw [hc] at HT HH
      have hcl := byteAt_lt s k
      rw [hc] at hcl
      go_upto_region 5 with (fail)
      go_cut [13, 14, 15, 16, 17, 18, 19, 20, 21, 22, 23, 24, 25, 26, 27, 28, 29, 30, 31, 32, 33, 34, 35, 36, 37, 38, 39, 40, 5] from 13 to 40 (fun _ _ _ _ _ _ _ _ _ _ _ _ _ _ _ _ _ _ _ _ _ _ _ _ _ _ _ _ v wx => v = .bool (digC c || letC c) ∧ wr = wx)
      case first =>
        cases hdc : digC c with
        | true =>
          have HDC := Lib.hid hdc
          clear hdc
          go_wp2_with ((go_at_call 101; (with_reducible refine (digit_at c _ true HDC.out).mono ?_); rintro r w5 ⟨rfl, rfl⟩))
          all_goals (go_meet; exact ⟨by rw [HDC.out]; rfl, rfl⟩)
        | false =>
          have HDC := Lib.hid hdc
          clear hdc
          rcases letC_cases c with ⟨hl, g⟩ | ⟨hl, g⟩ | ⟨hl, g⟩ | ⟨hl, g⟩ | ⟨hl, g⟩
          · obtain ⟨g1, g2⟩ := g
            have HL := Lib.hid hl
            clear hl
            go_wp2_with ((go_at_call 101; (with_reducible refine (digit_at c _ false HDC.out).mono ?_); rintro r w5 ⟨rfl, rfl⟩))
            all_goals (go_meet; exact ⟨by rw [HDC.out, HL.out]; first | rfl | (simp; omega), rfl⟩)
          · obtain ⟨g1, g2, g3⟩ := g
            have HL := Lib.hid hl
            clear hl
            go_wp2_with ((go_at_call 101; (with_reducible refine (digit_at c _ false HDC.out).mono ?_); rintro r w5 ⟨rfl, rfl⟩))
            all_goals (go_meet; exact ⟨by rw [HDC.out, HL.out]; first | rfl | (simp; omega), rfl⟩)
          · obtain ⟨g1, g2, g3, g4⟩ := g
            have HL := Lib.hid hl
            clear hl
            go_wp2_with ((go_at_call 101; (with_reducible refine (digit_at c _ false HDC.out).mono ?_); rintro r w5 ⟨rfl, rfl⟩))
            all_goals (go_meet; exact ⟨by rw [HDC.out, HL.out]; first | rfl | (simp; omega), rfl⟩)
          · obtain ⟨g1, g2, g3⟩ := g
            have HL := Lib.hid hl
            clear hl
            go_wp2_with ((go_at_call 101; (with_reducible refine (digit_at c _ false HDC.out).mono ?_); rintro r w5 ⟨rfl, rfl⟩))
            all_goals (go_meet; exact ⟨by rw [HDC.out, HL.out]; first | rfl | (simp; omega), rfl⟩)
          · obtain ⟨g1, g2⟩ := g
            have HL := Lib.hid hl
            clear hl
            go_wp2_with ((go_at_call 101; (with_reducible refine (digit_at c _ false HDC.out).mono ?_); rintro r w5 ⟨rfl, rfl⟩))
            all_goals (go_meet; exact ⟨by rw [HDC.out, HL.out]; first | rfl | (simp; omega), rfl⟩)
      case rest =>
        obtain ⟨rfl, hwc⟩ := hcut
        replace hwc := hwc.symm
        subst hwc
        go_wp2_with (fail)
        go_loopw [5, 6] (fun v j wq => ∃ m : Nat, m ≤ 15 ∧ j = I m ∧ v = .bool (digC c || letC c || (signsR.take m).contains c) ∧ Kept [] w wq) (fun _ j _ => 15 - (intOf j).toNat)
        case atStart => exact ⟨0, by omega, rfl, by simp, HK.out⟩
        case round =>
          obtain ⟨m, hm, rfl, rfl, hkq⟩ := hrel
          have HQ := Lib.hid hkq
          clear hkq
          by_cases hm15 : m < 15
          · have hm' : (m : Int) < 15 := by omega
            have HC := Lib.hid (contains_take signsR c m hm15)
            obtain ⟨b, hb⟩ : ∃ b, (digC c || letC c || (signsR.take m).contains c) = b := ⟨_, rfl⟩
            rw [hb]
            have HB := Lib.hid hb
            clear hb
            have HE : ∀ x : Bool, (c == byteAt signsR m) = x → (((byteAt s k).toNat : Int) == ((byteAt signsR m).toNat : Int)) = x := by
              intro x hx
              rw [hc, ← hx, Bool.eq_iff_iff]
              simp only [beq_iff_eq]
              constructor
              · intro h; exact UInt8.toNat.inj (by omega)
              · intro h; rw [h]
            cases b with
            | true =>
              go_wp2_with (fail)
              go_quiet (fail)
              go_wp2_with (fail)
              go_roundw
              case rel => exact ⟨m + 1, by omega, by go_num, by rw [HC.out, ← Bool.or_assoc, HB.out]; rfl, HQ.out.drewN _⟩
              case measure => simp [intOf]; omega
            | false =>
              obtain ⟨x, hx⟩ : ∃ x, (c == byteAt signsR m) = x := ⟨_, rfl⟩
              have hx2 := HE x hx
              have HX := Lib.hid hx
              clear hx HE
              go_wp2_with (fail)
              go_quiet (fail)
              go_wp2_with (fail)
              go_roundw
              case rel => exact ⟨m + 1, by omega, by go_num, by rw [HC.out, ← Bool.or_assoc, HB.out, HX.out]; simp; rw [← hc]; exact hx2, HQ.out.drewN _⟩
              case measure => simp [intOf]; omega
          · have hm' : ¬ (m : Int) < 15 := by omega
            have hm2 : m = 15 := by omega
            have hfull : (digC c || letC c || (signsR.take m).contains c) = tokC c := by rw [tok_ref, hm2]; rfl
            rw [hfull]
            cases htk : tokC c with
            | true =>
              have HV := Lib.hid htk
              clear htk hfull
              go_wp2_with (fail)
              go_roundw
              case rel => exact ⟨k + 1, by omega, by go_num, by rw [HT.out, HA.out, HV.out]; rfl, HQ.out⟩
              case measure => simp [intOf]; omega
            | false =>
              have HF : Hid (tokB s = false) := Lib.hid (by unfold tokB; rw [HH.out htk]; rfl)
              clear htk hfull
              go_wp2_with (fail)
              go_ret
              exact ⟨ret_B HF.out.symm, HQ.out⟩
    · have hlt' : ¬ (k : Int) < s.length := by omega
      have HF : Hid (tokB s = decide (0 < s.length)) := Lib.hid (by
        have ha := HA.out
        rw [List.take_of_length_le (by omega)] at ha
        unfold tokB; rw [ha]
        cases s <;> simp)
      go_wp2_with (fail)
      go_ret
      exact ⟨ret_B (by rw [HF.out]), HK.out⟩
end
section
set_option maxHeartbeats 8000000
set_option maxRecDepth 100000
/-! ### token -/
theorem or_all : ∀ n : Nat, n < 256 → (letC (UInt8.ofNat n) = true ∧ 97 ≤ bits .or .u8 (n : Int) 32 ∧ bits .or .u8 (n : Int) 32 ≤ 122) ∨ (letC (UInt8.ofNat n) = false ∧ ¬ 97 ≤ bits .or .u8 (n : Int) 32) ∨ (letC (UInt8.ofNat n) = false ∧ 97 ≤ bits .or .u8 (n : Int) 32 ∧ ¬ bits .or .u8 (n : Int) 32 ≤ 122) := by decide
theorem or_ways (c : UInt8) : (letC c = true ∧ 97 ≤ bits .or .u8 (c.toNat : Int) 32 ∧ bits .or .u8 (c.toNat : Int) 32 ≤ 122) ∨ (letC c = false ∧ ¬ 97 ≤ bits .or .u8 (c.toNat : Int) 32) ∨ (letC c = false ∧ 97 ≤ bits .or .u8 (c.toNat : Int) 32 ∧ ¬ bits .or .u8 (c.toNat : Int) 32 ≤ 122) := by
  have := or_all c.toNat c.toNat_lt
  rwa [UInt8.ofNat_toNat] at this
theorem indexByte_in (l : List UInt8) (c : UInt8) : (Lib.indexByte l c < 0) = (l.contains c = false) := by
  have hg := Lib.indexByte_ge l c
  apply propext
  constructor
  · intro h
    have h1 : Lib.indexByte l c = -1 := by omega
    have h2 := Lib.indexByte_none h1
    cases hc : l.contains c with
    | false => rfl
    | true =>
      obtain ⟨i, hi⟩ := List.getElem?_of_mem (by simpa using hc : c ∈ l)
      exact absurd hi (h2 i)
  · intro h
    rcases Int.lt_or_le (Lib.indexByte l c) 0 with h1 | h1
    · exact h1
    · have h2 : Lib.indexByte l c = ((Lib.indexByte l c).toNat : Nat) := by omega
      have h3 := (Lib.indexByte_some h2).1
      have := List.mem_of_getElem? h3
      simp at h; exact absurd this h
theorem token_any (s : List UInt8) (w : World) (hs : s.length ≤ 9223372036854775807) :
    Calls Tryz.prog 56 #[S s] w fun e w' => e = .returned (.bool (tokB s)) ∧ w = w' := by
  have hs' : (s.length : Int) ≤ 9223372036854775807 := by omega
  go_enter Tryz.func56, Tryz.ntmps56
  go_wp2_with (fail)
  go_loop [3, 4, 5, 8] (fun _ _ _ i => ∃ k : Nat, k ≤ s.length ∧ i = I k ∧ (s.take k).all tokC = true) (fun _ _ _ i => s.length - (intOf i).toNat)
  case atStart => exact ⟨0, by omega, rfl, rfl⟩
  case round =>
    obtain ⟨k, hk, rfl, hall⟩ := hrel
    have HA := Lib.hid hall
    clear hall
    by_cases hlt : k < s.length
    · have hlt' : (k : Int) < s.length := by omega
      have HT := Lib.hid (allTake tokC s k hlt)
      have HH := Lib.hid (all_hit (p := tokC) s k hlt)
      obtain ⟨c, hc⟩ : ∃ c, byteAt s k = c := ⟨_, rfl⟩
      rw [hc] at HT HH
      have hcl : (0 : Int) ≤ c.toNat := by omega
      have hdg : digC c = (decide (48 ≤ c.toNat) && decide (c.toNat ≤ 57)) := rfl
      have htok : tokC c = (letC c || (digC c || signsL.contains c)) := rfl
      rcases or_ways c with ⟨hv, h1, h2⟩ | hrest
      · have HV : Hid (tokC c = true) := Lib.hid (by rw [htok, hv]; rfl)
        clear hv hdg htok
        go_wp2_with (fail)
        go_round
        case rel => exact ⟨k + 1, by omega, by go_num, by rw [HT.out, HA.out, HV.out]; rfl⟩
        case measure => simp [intOf]; omega
      · cases hd : digC c with
        | true =>
          obtain ⟨d1, d2⟩ := digC_yes hd
          have d1' : ¬ (c.toNat : Int) < 48 := by omega
          have d2' : ¬ (c.toNat : Int) > 57 := by omega
          have HV : Hid (tokC c = true) := Lib.hid (by rw [htok, hd]; simp)
          clear hdg htok hd
          rcases hrest with ⟨_, h1⟩ | ⟨_, h1, h2⟩
          · go_wp2_with (fail)
            go_round
            case rel => exact ⟨k + 1, by omega, by go_num, by rw [HT.out, HA.out, HV.out]; rfl⟩
            case measure => simp [intOf]; omega
          · go_wp2_with (fail)
            go_round
            case rel => exact ⟨k + 1, by omega, by go_num, by rw [HT.out, HA.out, HV.out]; rfl⟩
            case measure => simp [intOf]; omega
        | false =>
          have hl : letC c = false := by rcases hrest with ⟨h, _⟩ | ⟨h, _⟩ <;> exact h
          rw [hl, hd] at htok
          have hix := indexByte_in signsL c
          obtain ⟨x, hx⟩ : ∃ x, Lib.indexByte signsL c = x := ⟨_, rfl⟩
          rw [hx] at hix
          have HIX := Lib.hid hix
          have HTK := Lib.hid htok
          have d12 := digC_no hd
          have HC : Hid (Calls Tryz.prog 85 #[S [33, 35, 36, 37, 38, 39, 42, 43, 45, 46, 94, 95, 96, 124, 126], B c] w fun e w' => e = .returned (I x) ∧ w = w') := Lib.hid (by
            have h1 := Tryz.strings_IndexByte ⟨#[33, 35, 36, 37, 38, 39, 42, 43, 45, 46, 94, 95, 96, 124, 126]⟩ (c.toNat : Int) w
            have h2 : ((c.toNat : Int)).toNat.toUInt8 = c := by simp
            rw [h2] at h1
            rw [← hx]; exact h1.mono fun e w' h => ⟨h.1, h.2.symm⟩)
          clear hx hix htok hd hdg hl
          by_cases hneg : x < 0
          · have HF : Hid (tokB s = false) := Lib.hid (by
              have h1 : signsL.contains c = false := by rw [← HIX.out]; exact hneg
              have h2 : tokC c = false := by rw [HTK.out, h1]; rfl
              unfold tokB; rw [HH.out h2]; rfl)
            rcases hrest with ⟨_, h1⟩ | ⟨_, h1, h2⟩
            · go_wp2_with ((go_at_call 85; (with_reducible refine HC.out.mono ?_); rintro r w5 ⟨rfl, rfl⟩))
              all_goals first
                | (exfalso; omega)
                | (go_ret; exact ⟨ret_B HF.out.symm, rfl⟩)
            · go_wp2_with ((go_at_call 85; (with_reducible refine HC.out.mono ?_); rintro r w5 ⟨rfl, rfl⟩))
              all_goals first
                | (exfalso; omega)
                | (go_ret; exact ⟨ret_B HF.out.symm, rfl⟩)
          · have HV : Hid (tokC c = true) := Lib.hid (by
              have h1 : signsL.contains c = true := by
                cases h : signsL.contains c with
                | true => rfl
                | false => rw [← HIX.out] at h; exact absurd h hneg
              rw [HTK.out, h1]; rfl)
            rcases hrest with ⟨_, h1⟩ | ⟨_, h1, h2⟩
            · go_wp2_with ((go_at_call 85; (with_reducible refine HC.out.mono ?_); rintro r w5 ⟨rfl, rfl⟩))
              all_goals first
                | (exfalso; omega)
                | (go_round
                   case rel => exact ⟨k + 1, by omega, by go_num, by rw [HT.out, HA.out, HV.out]; rfl⟩
                   case measure => simp [intOf]; omega)
            · go_wp2_with ((go_at_call 85; (with_reducible refine HC.out.mono ?_); rintro r w5 ⟨rfl, rfl⟩))
              all_goals first
                | (exfalso; omega)
                | (go_round
                   case rel => exact ⟨k + 1, by omega, by go_num, by rw [HT.out, HA.out, HV.out]; rfl⟩
                   case measure => simp [intOf]; omega)
    · have hlt' : ¬ (k : Int) < s.length := by omega
      have HF : Hid (tokB s = !s.isEmpty) := Lib.hid (by
        have ha := HA.out
        rw [List.take_of_length_le (by omega)] at ha
        unfold tokB; rw [ha]; rfl)
      by_cases hn : s = []
      · subst hn
        go_wp2_with (fail)
        go_ret
        exact ⟨ret_B (by rw [HF.out]; rfl), rfl⟩
      · have hse : (!s.isEmpty) = true := by simpa using hn
        have HSE := Lib.hid hse
        clear hn
        go_wp2_with (fail)
        go_ret
        exact ⟨ret_B (by rw [HF.out, HSE.out]), rfl⟩
end
section
/-! ### What is told of a head -/
def nameOk (s : List UInt8) : Prop := s ≠ [] ∧ ∀ c ∈ s, ¬ (65 ≤ c.toNat ∧ c.toNat ≤ 90) ∧ 32 < c.toNat ∧ c.toNat < 127 ∧ c ≠ 58
def valOk (s : List UInt8) : Prop := s ≠ [] → byteAt s 0 ≠ 32 ∧ byteAt s 0 ≠ 9 ∧ byteAt s (s.length - 1) ≠ 32 ∧ byteAt s (s.length - 1) ≠ 9
set_option maxRecDepth 100000 in
theorem tok_low_all : ∀ n, n < 256 → tokC (UInt8.ofNat n) = true → (¬ (65 ≤ (lowC (UInt8.ofNat n)).toNat ∧ (lowC (UInt8.ofNat n)).toNat ≤ 90) ∧ 32 < (lowC (UInt8.ofNat n)).toNat ∧ (lowC (UInt8.ofNat n)).toNat < 127 ∧ lowC (UInt8.ofNat n) ≠ 58) := by decide
theorem tok_low (c : UInt8) (h : tokC c = true) : ¬ (65 ≤ (lowC c).toNat ∧ (lowC c).toNat ≤ 90) ∧ 32 < (lowC c).toNat ∧ (lowC c).toNat < 127 ∧ lowC c ≠ 58 := by
  have := tok_low_all c.toNat c.toNat_lt
  rw [UInt8.ofNat_toNat] at this
  exact this h
theorem tok_nameOk (s : List UInt8) (h : tokB s = true) : nameOk (lowL s) := by
  simp only [tokB, Bool.and_eq_true, Bool.not_eq_true', List.isEmpty_eq_false_iff, List.all_eq_true] at h
  refine ⟨by simpa [lowL] using h.2, fun c hc => ?_⟩
  obtain ⟨x, hx, rfl⟩ := List.mem_map.1 hc
  exact tok_low x (h.1 x hx)
theorem dropWhile_head {p : UInt8 → Bool} (l : List UInt8) (h : l.dropWhile p ≠ []) : p (byteAt (l.dropWhile p) 0) = false := by
  induction l with
  | nil => exact absurd rfl h
  | cons a l ih =>
    unfold List.dropWhile at h ⊢
    cases hp : p a with
    | true => simp only [hp] at h ⊢; exact ih h
    | false => simp only [byteAt]; exact hp
theorem byteAt_last (l : List UInt8) : byteAt l.reverse 0 = byteAt l (l.length - 1) := by
  cases hl : l.length with
  | zero => have : l = [] := List.eq_nil_of_length_eq_zero hl; subst this; rfl
  | succ k =>
    unfold byteAt
    rw [List.getD_eq_getElem?_getD, List.getElem?_reverse (by omega), ← List.getD_eq_getElem?_getD, hl]
    rfl
theorem dropWhile_suffix {α : Type} (p : α → Bool) (l : List α) : ∃ a, l = a ++ l.dropWhile p := by
  induction l with
  | nil => exact ⟨[], rfl⟩
  | cons x l ih =>
    unfold List.dropWhile
    split
    · obtain ⟨a, h⟩ := ih; exact ⟨x :: a, by rw [List.cons_append, ← h]⟩
    · exact ⟨[], rfl⟩
theorem byteAt_append_last (a b : List UInt8) (h : b ≠ []) : byteAt (a ++ b) ((a ++ b).length - 1) = byteAt b (b.length - 1) := by
  rw [← byteAt_last, ← byteAt_last, List.reverse_append]
  cases hr : b.reverse with
  | nil => exact absurd (by simpa using hr) h
  | cons x r => rfl
theorem contains_blank (c : UInt8) : [(32 : UInt8), 9].contains c = ((c == 32) || (c == 9)) := by
  simp only [List.contains, List.elem]
  cases c == 32 <;> cases c == 9 <;> rfl
theorem trimF_ok (s : List UInt8) : valOk (trimF s) := by
  intro h
  unfold trimF Lib.trimS Lib.trimLeftS at h ⊢
  have h1 := dropWhile_head (p := ([32, 9].contains ·)) (Lib.trimRightS s [32, 9]) h
  rw [contains_blank, Bool.or_eq_false_iff, beq_eq_false_iff_ne, beq_eq_false_iff_ne] at h1
  obtain ⟨a, ha⟩ := dropWhile_suffix ([32, 9].contains ·) (Lib.trimRightS s [32, 9])
  have h2 := byteAt_append_last a _ h
  rw [← ha] at h2
  have hne : Lib.trimRightS s [32, 9] ≠ [] := by intro e; apply h; rw [e]; rfl
  have h3 : [(32 : UInt8), 9].contains (byteAt (Lib.trimRightS s [32, 9]) ((Lib.trimRightS s [32, 9]).length - 1)) = false := by
    rw [← byteAt_last]
    unfold Lib.trimRightS at hne ⊢
    rw [List.reverse_reverse]
    exact dropWhile_head (p := ([32, 9].contains ·)) s.reverse (by intro e; apply hne; rw [e]; rfl)
  rw [h2, contains_blank, Bool.or_eq_false_iff, beq_eq_false_iff_ne, beq_eq_false_iff_ne] at h3
  exact ⟨h1.1, h1.2, h3.1, h3.2⟩
structure HdOk (h : Hd) : Prop where
  same : h.ns.length = h.vs.length
  few : h.ns.length ≤ 32
  names : ∀ x ∈ h.ns, nameOk x
  vals : ∀ x ∈ h.vs, valOk x
theorem zeroH_ok : HdOk zeroH := ⟨rfl, by simp [zeroH], by simp [zeroH], by simp [zeroH]⟩
def AtOk (s : List UInt8) (h : Hd) (n : Nat) : Prop := (h.st = 0 ∧ n = 0) ∨ (100 ≤ h.st ∧ h.st ≤ 599 ∧ 15 ≤ n ∧ byteAt s (n - 2) = 13 ∧ byteAt s (n - 1) = 10)
theorem statF_cases (l : List UInt8) : statF l = 0 ∨ (100 ≤ statF l ∧ statF l ≤ 599 ∧ 13 ≤ l.length) := by
  unfold statF
  split
  · rename_i h
    simp only [Bool.and_eq_true, decide_eq_true_eq] at h
    split
    · rename_i h2; exact .inr ⟨h2.1, h2.2, h.1.1.1.1.1⟩
    · exact .inl rfl
  · exact .inl rfl
theorem turn_ok {s : List UInt8} {h h' : Hd} {n n' : Nat} (ho : HdOk h) (ha : AtOk s h n) (ht : turnF s h n = .on h' n') : HdOk h' ∧ AtOk s h' n' := by
  obtain ⟨i, hc, hi, hn, hn2, hn3⟩ := turnF_on ht
  obtain ⟨hs1, hs2, hs3⟩ := crlf_spec hc
  rw [byteAt_drop] at hs2 hs3
  have e2 : byteAt s (n' - 2) = 13 := by rw [hn, ← hs2]; congr 1
  have e1 : byteAt s (n' - 1) = 10 := by rw [hn, ← hs3]; congr 1
  unfold turnF at ht
  rw [hc] at ht
  simp only at ht
  split at ht
  · cases ht
  · split at ht
    · rename_i h0
      rcases statF_cases ((s.drop n).take i) with hz | ⟨hz1, hz2, hz3⟩
      · rw [if_pos hz] at ht; cases ht
      · rw [if_neg (by omega)] at ht
        cases ht
        simp at hz3
        exact ⟨⟨ho.same, ho.few, ho.names, ho.vals⟩, .inr ⟨hz1, hz2, by omega, e2, e1⟩⟩
    · split at ht
      · cases ht
      · rename_i h1 h2 h3
        rcases fieldF_cases ((s.drop n).take i) h (n + i + 2) with e | e | ⟨e, htok, hfew⟩ <;> rw [e] at ht <;> cases ht
        rcases ha with ⟨h0, _⟩ | ⟨g1, g2, g3, _⟩
        · exact absurd h0 h2
        refine ⟨⟨by simp [ho.same], by simp; omega, fun x hx => ?_, fun x hx => ?_⟩, .inr ⟨g1, g2, by omega, e2, e1⟩⟩
        · rcases List.mem_append.1 hx with hx | hx
          · exact ho.names x hx
          · rw [List.mem_singleton.1 hx]; exact tok_nameOk _ htok
        · rcases List.mem_append.1 hx with hx | hx
          · exact ho.vals x hx
          · rw [List.mem_singleton.1 hx]; exact trimF_ok _
theorem run_ok {s : List UInt8} : ∀ (f : Nat) {h h' : Hd} {n m : Nat}, HdOk h → AtOk s h n → runF s f h n = .done h' m →
    HdOk h' ∧ 100 ≤ h'.st ∧ h'.st ≤ 599 ∧ 17 ≤ m ∧ m ≤ 2048 ∧ m ≤ s.length ∧ byteAt s (m - 4) = 13 ∧ byteAt s (m - 3) = 10 ∧ byteAt s (m - 2) = 13 ∧ byteAt s (m - 1) = 10
  | 0, _, _, _, _, _, _, hr => by cases hr
  | f + 1, h, h', n, m, ho, ha, hr => by
    unfold runF at hr
    cases ht : turnF s h n with
    | fail e => rw [ht] at hr; cases hr
    | done h1 n1 =>
      rw [ht] at hr; cases hr
      obtain ⟨hc, e0, e1, h0, hb1, hb2⟩ := turnF_done ht
      obtain ⟨_, hs2, hs3⟩ := crlf_spec hc
      rw [byteAt_drop] at hs2 hs3
      subst e1
      rcases ha with ⟨hz, _⟩ | ⟨g1, g2, g3, g4, g5⟩
      · exact absurd hz h0
      refine ⟨ho, g1, g2, by omega, hb1, hb2, ?_, ?_, ?_, ?_⟩
      · rw [e0, ← g4]; congr 1
      · rw [e0, ← g5]; congr 1
      · rw [e0, ← hs2]; congr 1
      · rw [e0, ← hs3]; congr 1
    | on h1 n1 =>
      rw [ht] at hr
      obtain ⟨g1, g2⟩ := turn_ok ho ha ht
      exact run_ok f g1 g2 hr
theorem parse_ok {s : List UInt8} {h : Hd} {m : Nat} (hp : parseF s = .done h m) :
    HdOk h ∧ 100 ≤ h.st ∧ h.st ≤ 599 ∧ 17 ≤ m ∧ m ≤ 2048 ∧ m ≤ s.length ∧ byteAt s (m - 4) = 13 ∧ byteAt s (m - 3) = 10 ∧ byteAt s (m - 2) = 13 ∧ byteAt s (m - 1) = 10 :=
  run_ok 3000 zeroH_ok (.inl ⟨rfl, rfl⟩) hp
/-- a field's first value, and how many there are, of the first i -/
def getN (ns vs : List (List UInt8)) (x : List UInt8) : Nat → List UInt8 × Nat
  | 0 => ([], 0)
  | i + 1 => if ns.getD i [] = x then (if (getN ns vs x i).2 = 0 ∧ i < vs.length then vs.getD i [] else (getN ns vs x i).1, (getN ns vs x i).2 + 1) else getN ns vs x i
theorem getN_at (ns vs : List (List UInt8)) (i : Nat) (hi : i < vs.length) : ∀ m, i < m → 1 ≤ (getN ns vs (ns.getD i []) m).2 ∧ ((getN ns vs (ns.getD i []) m).2 = 1 → (getN ns vs (ns.getD i []) m).1 = vs.getD i [])
  | 0, h => by omega
  | m + 1, h => by
    by_cases hm : m = i
    · subst hm
      unfold getN
      rw [if_pos rfl]
      refine ⟨by omega, fun h2 => ?_⟩
      simp only at h2 ⊢
      rw [if_pos ⟨by omega, hi⟩]
    · obtain ⟨h1, h2⟩ := getN_at ns vs i hi m (by omega)
      unfold getN
      split
      · refine ⟨by omega, fun h3 => ?_⟩
        simp only at h3; omega
      · exact ⟨h1, h2⟩
theorem getN_le (ns vs : List (List UInt8)) (x : List UInt8) : ∀ m, (getN ns vs x m).2 ≤ m
  | 0 => Nat.le_refl _
  | m + 1 => by
    have := getN_le ns vs x m
    unfold getN
    split
    · simp only; omega
    · omega
/-! ### Fields, laid as a head -/
def fieldL (n v a b : List UInt8) : List UInt8 := n ++ [58] ++ a ++ v ++ b
def smallB (n : List UInt8) : Bool := n.all fun c => decide (97 ≤ c.toNat) && decide (c.toNat ≤ 122)
def laidOk (n v : List UInt8) : Prop := 1 ≤ n.length ∧ n.length ≤ 50 ∧ v.length ≤ 100 ∧ trimF v = v ∧ smallB n = true ∧ textB v = true
def blankB (a : List UInt8) : Bool := a.all fun c => [(32 : UInt8), 9].contains c
set_option maxRecDepth 100000 in
theorem small_all : ∀ n, n < 256 → (decide (97 ≤ (UInt8.ofNat n).toNat) && decide ((UInt8.ofNat n).toNat ≤ 122)) = true → tokC (UInt8.ofNat n) = true ∧ lowC (UInt8.ofNat n) = UInt8.ofNat n ∧ UInt8.ofNat n ≠ 58 ∧ UInt8.ofNat n ≠ 13 := by decide
theorem small_one (c : UInt8) (h : (decide (97 ≤ c.toNat) && decide (c.toNat ≤ 122)) = true) : tokC c = true ∧ lowC c = c ∧ c ≠ 58 ∧ c ≠ 13 := by
  have := small_all c.toNat c.toNat_lt
  rw [UInt8.ofNat_toNat] at this
  exact this h
theorem dropWhile_blank (a l : List UInt8) (h : blankB a = true) : (a ++ l).dropWhile ([(32 : UInt8), 9].contains ·) = l.dropWhile ([(32 : UInt8), 9].contains ·) := by
  induction a with
  | nil => rfl
  | cons c a ih =>
    simp only [blankB, List.all_cons, Bool.and_eq_true] at h
    rw [List.cons_append, List.dropWhile_cons]
    rw [if_pos h.1]; exact ih h.2
theorem dropWhile_len {α : Type} (p : α → Bool) (l : List α) : (l.dropWhile p).length ≤ l.length := by
  obtain ⟨a, h⟩ := dropWhile_suffix p l
  have := congrArg List.length h
  simp at this; omega
theorem dropWhile_fix {α : Type} {p : α → Bool} {l : List α} (h : (l.dropWhile p).length = l.length) : l.dropWhile p = l := by
  obtain ⟨a, ha⟩ := dropWhile_suffix p l
  have := congrArg List.length ha
  simp only [List.length_append] at this
  have h0 : a = [] := List.eq_nil_of_length_eq_zero (by omega)
  rw [h0] at ha; exact ha.symm
theorem dropWhile_keep {p : UInt8 → Bool} (v r : List UInt8) (hv : v ≠ []) (h : v.dropWhile p = v) : (v ++ r).dropWhile p = v ++ r := by
  cases v with
  | nil => exact absurd rfl hv
  | cons c v =>
    have : p c = false := by
      have := dropWhile_head (p := p) (c :: v) (by rw [h]; simp)
      rw [h] at this; exact this
    rw [List.cons_append, List.dropWhile_cons, if_neg (by simp [this])]
theorem trimF_len (v : List UInt8) (h : trimF v = v) : v.dropWhile ([(32 : UInt8), 9].contains ·) = v ∧ v.reverse.dropWhile ([(32 : UInt8), 9].contains ·) = v.reverse := by
  unfold trimF Lib.trimS Lib.trimLeftS Lib.trimRightS at h
  have h1 := congrArg List.length h
  have h2 := dropWhile_len ([(32 : UInt8), 9].contains ·) (v.reverse.dropWhile ([(32 : UInt8), 9].contains ·)).reverse
  have h3 := dropWhile_len ([(32 : UInt8), 9].contains ·) v.reverse
  simp only [List.length_reverse] at h2 h3
  have h4 : v.reverse.dropWhile ([(32 : UInt8), 9].contains ·) = v.reverse := dropWhile_fix (by simp only [List.length_reverse]; omega)
  rw [h4, List.reverse_reverse] at h
  exact ⟨h, h4⟩
theorem blank_rev (b : List UInt8) (h : blankB b = true) : blankB b.reverse = true := by simpa [blankB] using h
theorem trimF_laid (v a b : List UInt8) (h : trimF v = v) (ha : blankB a = true) (hb : blankB b = true) : trimF (a ++ v ++ b) = v := by
  obtain ⟨h1, h2⟩ := trimF_len v h
  unfold trimF Lib.trimS Lib.trimLeftS Lib.trimRightS
  rw [List.reverse_append, List.reverse_append, dropWhile_blank _ _ (blank_rev b hb)]
  by_cases hv : v = []
  · subst hv
    have := dropWhile_blank a.reverse [] (blank_rev a ha)
    simp at this
    simp [this]
  · rw [dropWhile_keep _ _ (by simpa using hv) h2, List.reverse_append, List.reverse_reverse, List.reverse_reverse, dropWhile_blank _ _ ha, h1]
set_option maxRecDepth 100000 in
theorem blank_text : ∀ n, n < 256 → [(32 : UInt8), 9].contains (UInt8.ofNat n) = true → textC (UInt8.ofNat n) = true := by decide
set_option maxRecDepth 100000 in
theorem text_13 : ∀ n, n < 256 → textC (UInt8.ofNat n) = true → UInt8.ofNat n ≠ 13 := by decide
theorem textC_13 (c : UInt8) (h : textC c = true) : c ≠ 13 := by
  have := text_13 c.toNat c.toNat_lt
  rw [UInt8.ofNat_toNat] at this; exact this h
theorem blank_textB (a : List UInt8) (h : blankB a = true) : textB a = true := by
  simp only [blankB, textB, List.all_eq_true] at h ⊢
  intro c hc
  have := blank_text c.toNat c.toNat_lt
  rw [UInt8.ofNat_toNat] at this
  exact this (h c hc)
theorem nameL_field (n r : List UInt8) (h : smallB n = true) : nameL (n ++ 58 :: r) = n := by
  induction n with
  | nil => rfl
  | cons c n ih =>
    simp only [smallB, List.all_cons, Bool.and_eq_true] at h
    have hc := (small_one c (by simp [h.1])).2.2.1
    unfold nameL at ih ⊢
    rw [List.cons_append, List.takeWhile_cons, if_pos (by simp [hc])]
    rw [ih (by simp only [smallB, List.all_eq_true]; simpa using h.2)]
theorem fieldF_laid (n v a b : List UInt8) (h : Hd) (m : Nat) (hl : laidOk n v) (ha : blankB a = true) (hb : blankB b = true) (hf : h.ns.length < 32) :
    fieldF (fieldL n v a b) h m = .on ⟨h.st, h.ns ++ [n], h.vs ++ [v]⟩ m := by
  obtain ⟨h1, h2, h3, h4, h5, h6⟩ := hl
  have e : fieldL n v a b = n ++ 58 :: (a ++ v ++ b) := by simp [fieldL]
  have en := nameL_field n (a ++ v ++ b) h5
  have ht : tokB n = true := by
    simp only [tokB, Bool.and_eq_true, Bool.not_eq_true', List.isEmpty_eq_false_iff, List.all_eq_true]
    simp only [smallB, List.all_eq_true] at h5
    exact ⟨fun c hc => (small_one c (h5 c hc)).1, by intro e; subst e; simp at h1⟩
  have hlow : lowL n = n := by
    unfold lowL
    simp only [smallB, List.all_eq_true] at h5
    conv => rhs; rw [← List.map_id n]
    exact List.map_congr_left fun c hc => (small_one c (h5 c hc)).2.1
  have hd : (n ++ 58 :: (a ++ v ++ b)).drop (n.length + 1) = a ++ v ++ b := by
    rw [List.drop_append, List.drop_of_length_le (by omega), List.nil_append, Nat.add_sub_cancel_left]; rfl
  have htx : textB (a ++ v ++ b) = true := by
    have x1 := blank_textB a ha
    have x2 := blank_textB b hb
    simp only [textB, List.all_append, Bool.and_eq_true] at x1 x2 h6 ⊢
    exact ⟨⟨x1, h6⟩, x2⟩
  unfold fieldF
  rw [e, en, hd, ht, htx, hlow, trimF_laid v a b h4 ha hb]
  rw [if_neg (by simp), if_neg (by omega)]
/-- a text that is a head so far -/
def LaidH (s : List UInt8) (h : Hd) : Prop := h.st ≠ 0 ∧ s.length ≤ 2046 ∧ h.ns.length ≤ 32 ∧ ∀ t, parseF (s ++ t) = runF (s ++ t) (2999 - h.ns.length) h s.length
theorem runF_succ (s : List UInt8) (f : Nat) (h : Hd) (n : Nat) : runF s (f + 1) h n = (match turnF s h n with | .on h' n' => runF s f h' n' | r => r) := rfl
theorem LaidH.field {s : List UInt8} {h : Hd} (H : LaidH s h) (n v a b : List UInt8) (hl : laidOk n v) (ha : blankB a = true) (hb : blankB b = true) (ha2 : a.length ≤ 2) (hb2 : b.length ≤ 2) (hf : h.ns.length < 32)
    (hm : s.length + n.length + v.length + 9 ≤ 2046) : LaidH (s ++ (fieldL n v a b ++ [13, 10])) ⟨h.st, h.ns ++ [n], h.vs ++ [v]⟩ := by
  obtain ⟨h1, h2, h3, h4⟩ := H
  have hlen : (fieldL n v a b).length ≤ n.length + v.length + 5 := by simp [fieldL]; omega
  refine ⟨h1, by simp; omega, by simp; omega, fun t => ?_⟩
  have e : s ++ (fieldL n v a b ++ [13, 10]) ++ t = s ++ (fieldL n v a b ++ 13 :: 10 :: t) := by simp
  rw [e, h4]
  have hno : ∀ c ∈ fieldL n v a b, c ≠ 13 := by
    obtain ⟨_, _, _, _, h5, h6⟩ := hl
    simp only [smallB, textB, List.all_eq_true] at h5 h6
    have x1 := blank_textB a ha
    have x2 := blank_textB b hb
    simp only [textB, List.all_eq_true] at x1 x2
    intro c hc
    simp only [fieldL, List.mem_append, List.mem_singleton] at hc
    rcases hc with (((hc | hc) | hc) | hc) | hc
    · exact (small_one c (h5 c hc)).2.2.2
    · subst hc; decide
    · exact textC_13 c (x1 c hc)
    · exact textC_13 c (h6 c hc)
    · exact textC_13 c (x2 c hc)
  have hc := crlf_line (fieldL n v a b) t hno
  have hdr : (s ++ (fieldL n v a b ++ 13 :: 10 :: t)).drop s.length = fieldL n v a b ++ 13 :: 10 :: t := by simp
  obtain ⟨l1, l2, l3, _⟩ := hl
  have hpos : (fieldL n v a b).length ≠ 0 := by simp [fieldL]
  have htn : turnF (s ++ (fieldL n v a b ++ 13 :: 10 :: t)) h s.length = .on ⟨h.st, h.ns ++ [n], h.vs ++ [v]⟩ (s.length + (fieldL n v a b).length + 2) := by
    unfold turnF
    rw [hdr, hc]
    simp only
    rw [if_neg (by omega), if_neg h1, if_neg hpos]
    have : (fieldL n v a b ++ 13 :: 10 :: t).take (fieldL n v a b).length = fieldL n v a b := by simp
    rw [this, fieldF_laid n v a b h _ ⟨l1, l2, l3, by assumption⟩ ha hb hf]
  have hfu : 2999 - h.ns.length = (2999 - (h.ns ++ [n]).length) + 1 := by simp; omega
  rw [hfu, runF_succ, htn]
  simp only
  congr 1
  simp; omega
theorem LaidH.done {s : List UInt8} {h : Hd} (H : LaidH s h) (t : List UInt8) : parseF (s ++ 13 :: 10 :: t) = .done h (s.length + 2) := by
  obtain ⟨h1, h2, h3, h4⟩ := H
  rw [h4]
  have hdr : (s ++ 13 :: 10 :: t).drop s.length = 13 :: 10 :: t := by simp
  have hc : crlf (13 :: 10 :: t) = some 0 := by simp [crlf, List.isPrefixOf]
  have hfu : 2999 - h.ns.length = (2998 - h.ns.length) + 1 := by omega
  rw [hfu]
  unfold runF turnF
  rw [hdr, hc]
  simp only
  rw [if_neg (by omega), if_neg h1]
  rfl
theorem dec3 (n : Nat) (h1 : 100 ≤ n) (h2 : n ≤ 599) : Lib.decDigits n = [UInt8.ofNat (48 + n / 100), UInt8.ofNat (48 + n / 10 % 10), UInt8.ofNat (48 + n % 10)] := by
  rw [Lib.decDigits, dif_neg (by omega), Lib.decDigits, dif_neg (by omega), Lib.decDigits, dif_pos (by omega)]
  simp [Nat.div_div_eq_div_mul]
theorem digit_nat (d : Nat) (h : d < 10) : (UInt8.ofNat (48 + d)).toNat = 48 + d := by
  rw [UInt8.toNat_ofNat']; omega
theorem digit_dig (d : Nat) (h : d < 10) : digC (UInt8.ofNat (48 + d)) = true := by
  unfold digC; rw [digit_nat d h]; simp; omega
def firstL (n : Nat) : List UInt8 := [72, 84, 84, 80, 47, 49, 46, 49, 32] ++ Lib.decDigits n ++ [32]
theorem statF_first (n : Nat) (h1 : 100 ≤ n) (h2 : n ≤ 599) : statF (firstL n) = n := by
  unfold firstL
  rw [dec3 n h1 h2]
  have d1 := digit_nat (n / 100) (by omega)
  have d2 := digit_nat (n / 10 % 10) (by omega)
  have d3 := digit_nat (n % 10) (by omega)
  have g1 := digit_dig (n / 100) (by omega)
  have g2 := digit_dig (n / 10 % 10) (by omega)
  have g3 := digit_dig (n % 10) (by omega)
  unfold statF statN
  generalize UInt8.ofNat (48 + n / 100) = a at *
  generalize UInt8.ofNat (48 + n / 10 % 10) = b at *
  generalize UInt8.ofNat (48 + n % 10) = c at *
  have e : ∀ (A B C : UInt8), A = a → B = b → C = c → (if 100 ≤ 100 * (A.toNat - 48) + 10 * (B.toNat - 48) + (C.toNat - 48) ∧ 100 * (A.toNat - 48) + 10 * (B.toNat - 48) + (C.toNat - 48) ≤ 599 then 100 * (A.toNat - 48) + 10 * (B.toNat - 48) + (C.toNat - 48) else 0) = n := by
    rintro A B C rfl rfl rfl
    rw [d1, d2, d3, if_pos (by omega)]; omega
  rw [if_pos]
  · exact e _ _ _ rfl rfl rfl
  · simp [byteAt, httpL, g1, g2, g3, textB]
    decide
theorem laid_first (n : Nat) (h1 : 100 ≤ n) (h2 : n ≤ 599) : LaidH (firstL n ++ [13, 10]) ⟨n, [], []⟩ := by
  have hl : (firstL n).length = 13 := by unfold firstL; rw [dec3 n h1 h2]; rfl
  refine ⟨by show n ≠ 0; omega, by simp [hl], by simp, fun t => ?_⟩
  have hno : ∀ c ∈ firstL n, c ≠ 13 := by
    have hd : ∀ d : Nat, d < 10 → UInt8.ofNat (48 + d) ≠ 13 := by decide
    unfold firstL
    rw [dec3 n h1 h2]
    intro c hc
    simp only [List.mem_append, List.mem_cons, List.not_mem_nil, or_false, or_assoc] at hc
    rcases hc with rfl | rfl | rfl | rfl | rfl | rfl | rfl | rfl | rfl | rfl | rfl | rfl | rfl <;> first | decide | exact hd _ (by omega)
  have e : firstL n ++ [13, 10] ++ t = firstL n ++ 13 :: 10 :: t := by simp
  have hc := crlf_line (firstL n) t hno
  have ht : turnF (firstL n ++ 13 :: 10 :: t) zeroH 0 = .on ⟨n, [], []⟩ 15 := by
    unfold turnF
    rw [List.drop_zero, hc]
    simp only
    have : (firstL n ++ 13 :: 10 :: t).take (firstL n).length = firstL n := by simp
    rw [this, statF_first n h1 h2, hl]
    rw [if_neg (by omega)]
    have h0 : ¬ n = 0 := by omega
    simp [zeroH, h0]
  rw [e]
  have e2 : parseF (firstL n ++ 13 :: 10 :: t) = (match turnF (firstL n ++ 13 :: 10 :: t) zeroH 0 with | .on h' n' => runF (firstL n ++ 13 :: 10 :: t) 2999 h' n' | r => r) := rfl
  rw [e2, ht]
  simp [hl]
set_option maxHeartbeats 8000000
set_option maxRecDepth 100000
/-! ### lower, Small; Trim; End -/
structure CellsB (w : World) (b : Nat) (l : List UInt8) : Prop where
  cell : ∀ i, i < l.length → w.cell? ⟨b, i, none⟩ = some (B (byteAt l i))
  free : ∀ i, i < l.length → w.frozen? ⟨b, i, none⟩ = false
theorem byteAt_set_eq (l : List UInt8) (k : Nat) (c : UInt8) (h : k < l.length) : byteAt (l.set k c) k = c := by
  unfold byteAt; simp [List.getD_eq_getElem?_getD, h]
theorem byteAt_set_ne (l : List UInt8) (k i : Nat) (c : UInt8) (h : i ≠ k) : byteAt (l.set k c) i = byteAt l i := by
  unfold byteAt; rw [List.getD_eq_getElem?_getD, List.getD_eq_getElem?_getD, List.getElem?_set_ne (Ne.symm h)]
theorem CellsB.set {w : World} {b : Nat} {l : List UInt8} (h : CellsB w b l) (k : Nat) (c : UInt8) (hk : k < l.length) : CellsB (w.setCell ⟨b, k, none⟩ (B c)) b (l.set k c) := by
  constructor
  · intro i hi
    rw [List.length_set] at hi
    by_cases hik : i = k
    · subst hik
      rw [World.cell?_setCell_same' _ _ _ (by rw [h.cell i hi]; rfl), byteAt_set_eq _ _ _ hi]
    · rw [byteAt_set_ne _ _ _ _ hik, ← h.cell i hi]
      exact World.cell?_setCell_other w _ _ _ (fun e => hik (by injection e with _ e2 _; exact e2.symm))
  · intro i hi
    rw [List.length_set] at hi
    rw [World.frozen?_setCell]; exact h.free i hi
theorem CellsB.conv {w : World} {b : Nat} {l : List UInt8} (h : CellsB w b l) (c : Nat) : (convert 76 9 (.slice (some ⟨b, 0, none⟩) l.length c)).run Tryz.prog w = .ok (S l) w := by
  have hr := run_convert_bytes_arg (P := Tryz.prog) w 76 5 Tryz.underlying76 Tryz.underlying5 b 0 l.length c (l.map fun c => (c.toNat : Int)) (by simp) (fun i hi => by
    rw [Nat.zero_add, h.cell i hi, byteAt_eq l i hi]
    simp [List.getD, hi]) 9 Tryz.underlying9
  rw [hr]
  have : strOfNums (l.map fun c => (c.toNat : Int)) = ⟨l.toArray⟩ := by
    unfold strOfNums; rw [List.map_map]; congr 1
    have : l.map ((fun n : Int => UInt8.ofNat n.toNat) ∘ fun c : UInt8 => (c.toNat : Int)) = l := by
      conv => rhs; rw [← List.map_id l]
      apply List.map_congr_left; intro x _; simp
    rw [this]
  rw [this]
theorem text_cells (l : List UInt8) (w : World) : ∃ (c : Nat) (W : World), (convert 9 76 (S l)).run Tryz.prog w = .ok (.slice (some ⟨w.heap.size, 0, none⟩) l.length c) W ∧ Kept [] w W ∧ CellsB W w.heap.size l := by
  have hr := run_bytes_of_string w 9 76 5 ⟨l.toArray⟩ Tryz.underlying9 Tryz.underlying76 Tryz.underlying5
  have e1 : (⟨l.toArray⟩ : ByteArray).size = l.length := by simp [ByteArray.size]
  obtain ⟨c, hc⟩ : ∃ c, grownCap w (⟨l.toArray⟩ : ByteArray).size 0 5 = c := ⟨_, rfl⟩
  rw [hc, e1] at hr
  have hlen : l.length ≤ (bytesRow ⟨l.toArray⟩ c).size := by simp [bytesRow]
  have hh : (w.drew.alloc (.cells (bytesRow ⟨l.toArray⟩ c) 5 ((bytesRow ⟨l.toArray⟩ c).size, (bytesRow ⟨l.toArray⟩ c).size + 1))).heap[w.heap.size]? = some (.cells (bytesRow ⟨l.toArray⟩ c) 5 ((bytesRow ⟨l.toArray⟩ c).size, (bytesRow ⟨l.toArray⟩ c).size + 1)) := heap_new w.drew _
  refine ⟨c, _, hr, ((Kept.refl [] w).drew).alloc _, fun i hi => ?_, fun i hi => ?_⟩
  · have h2 := bytesRow_at ⟨l.toArray⟩ c i (by simpa using hi)
    simp only [World.cell?, hh, h2]
    rw [byteAt_eq l i hi]
    rfl
  · simp only [World.frozen?, hh]
    simp
    omega
theorem low_step (s : List UInt8) (k : Nat) (h : k < s.length) : (lowL (s.take k) ++ s.drop k).set k (lowC (byteAt s k)) = lowL (s.take (k + 1)) ++ s.drop (k + 1) := by
  have hl : (lowL (s.take k)).length = k := by simp [lowL]; omega
  rw [List.set_append_right _ _ (by omega), hl, Nat.sub_self, drop_byte s k h, take_byteAt s k h]
  simp [lowL]
theorem low_at (s : List UInt8) (k : Nat) (h : k < s.length) : byteAt (lowL (s.take k) ++ s.drop k) k = byteAt s k := by
  have hl : (lowL (s.take k)).length = k := by simp [lowL]; omega
  rw [drop_byte s k h]
  unfold byteAt
  rw [List.getD_eq_getElem?_getD, List.getElem?_append_right (by omega), hl, Nat.sub_self]
  rfl
theorem low_same (s : List UInt8) (k : Nat) (h : k < s.length) (hc : lowC (byteAt s k) = byteAt s k) : lowL (s.take k) ++ s.drop k = lowL (s.take (k + 1)) ++ s.drop (k + 1) := by
  rw [drop_byte s k h, take_byteAt s k h]
  simp [lowL, hc]
theorem low_len (s : List UInt8) (k : Nat) : (lowL (s.take k) ++ s.drop k).length = s.length := by simp [lowL]; omega
theorem lowC_up {c : UInt8} (h : 65 ≤ c.toNat ∧ c.toNat ≤ 90) : ((lowC c).toNat : Int) = (c.toNat : Int) + 32 := by
  unfold lowC
  rw [if_pos h, UInt8.toNat_add]
  have : (32 : UInt8).toNat = 32 := rfl
  rw [this]
  omega
theorem lower_any (s : List UInt8) (w : World) (hs : s.length ≤ 9223372036854775807) :
    Calls Tryz.prog 58 #[S s] w fun e w' => e = .returned (S (lowL s)) ∧ Kept [] w w' := by
  have hs' : (s.length : Int) ≤ 9223372036854775807 := by omega
  obtain ⟨cp, X, hcb, kX, hX⟩ := text_cells s w
  have HX := Lib.hid (And.intro hX kX)
  clear hX kX
  go_enter Tryz.func58, Tryz.ntmps58
  go_wp2_with (fail)
  clear hcb
  go_loopw [4, 5, 10] (fun _ _ i wr => ∃ k : Nat, k ≤ s.length ∧ i = I k ∧ CellsB wr w.heap.size (lowL (s.take k) ++ s.drop k) ∧ Kept [] w wr) (fun _ _ i _ => s.length - (intOf i).toNat)
  case atStart => exact ⟨0, by omega, rfl, HX.out.1, HX.out.2⟩
  case round =>
    obtain ⟨k, hk, rfl, hcb, hkw⟩ := hrel
    have HC := Lib.hid hcb
    have HK := Lib.hid hkw
    by_cases hlt : k < s.length
    · have hlt' : (k : Int) < s.length := by omega
      have hcell := hcb.cell k (by rw [low_len]; exact hlt)
      have hfree := hcb.free k (by rw [low_len]; exact hlt)
      rw [low_at s k hlt] at hcell
      have HS := Lib.hid (low_step s k hlt)
      have HE := Lib.hid (low_same s k hlt)
      have HW := Lib.hid (hcb.set k (lowC (byteAt s k)) (by rw [low_len]; exact hlt))
      obtain ⟨c, hc⟩ : ∃ c, byteAt s k = c := ⟨_, rfl⟩
      rw [hc] at hcell HS HE HW
      have hcl := byteAt_lt s k
      rw [hc] at hcl
      clear hcb hkw hc
      by_cases h1 : 65 ≤ c.toNat
      · by_cases h2 : c.toNat ≤ 90
        · have h1' : (65 : Int) ≤ c.toNat := by omega
          have h2' : (c.toNat : Int) ≤ 90 := by omega
          have HU := Lib.hid (lowC_up ⟨h1, h2⟩)
          have HKS : Hid (Kept [] w (wr.setCell ⟨w.heap.size, k, none⟩ (B (lowC c)))) := Lib.hid (HK.out.setCell (.inr (Nat.le_refl _)) _)
          go_wp2_with (fail)
          go_roundw
          case rel => exact ⟨k + 1, by omega, by go_num, by rw [← HS.out, ← HU.out]; exact HW.out, by rw [← HU.out]; exact HKS.out⟩
          case measure => simp [intOf]; omega
        · have h1' : (65 : Int) ≤ c.toNat := by omega
          have h2' : ¬ (c.toNat : Int) ≤ 90 := by omega
          have HL : Hid (lowC c = c) := Lib.hid (by unfold lowC; rw [if_neg (by omega)])
          go_wp2_with (fail)
          go_roundw
          case rel => exact ⟨k + 1, by omega, by go_num, by rw [← HE.out HL.out]; exact HC.out, HK.out⟩
          case measure => simp [intOf]; omega
      · have h1' : ¬ (65 : Int) ≤ c.toNat := by omega
        have HL : Hid (lowC c = c) := Lib.hid (by unfold lowC; rw [if_neg (by omega)])
        go_wp2_with (fail)
        go_roundw
        case rel => exact ⟨k + 1, by omega, by go_num, by rw [← HE.out HL.out]; exact HC.out, HK.out⟩
        case measure => simp [intOf]; omega
    · have hlt' : ¬ (k : Int) < s.length := by omega
      have he : lowL (s.take k) ++ s.drop k = lowL s := by rw [List.take_of_length_le (by omega), List.drop_of_length_le (by omega), List.append_nil]
      rw [he] at hcb
      have hcv := hcb.conv cp
      have hll : (lowL s).length = s.length := by simp [lowL]
      rw [hll] at hcv
      clear hcb hkw he
      go_wp2_with (fail)
      go_ret
      exact ⟨rfl, HK.out⟩
theorem small_any (s : List UInt8) (w : World) (hs : s.length ≤ 9223372036854775807) :
    Calls Tryz.prog 69 #[S s] w fun e w' => e = .returned (S (lowL s)) ∧ Kept [] w w' := by
  have hs' : (s.length : Int) ≤ 9223372036854775807 := by omega
  obtain ⟨cp, X, hcb, kX, hX⟩ := text_cells s w
  have HX := Lib.hid (And.intro hX kX)
  clear hX kX
  go_enter Tryz.func69, Tryz.ntmps69
  go_wp2_with (fail)
  clear hcb
  go_loopw [4] (fun i wr => ∃ k : Nat, k ≤ s.length ∧ i = I k ∧ CellsB wr w.heap.size (lowL (s.take k) ++ s.drop k) ∧ Kept [] w wr) (fun i _ => s.length - (intOf i).toNat)
  case atStart => exact ⟨0, by omega, rfl, HX.out.1, HX.out.2⟩
  case round =>
    obtain ⟨k, hk, rfl, hcb, hkw⟩ := hrel
    have HC := Lib.hid hcb
    have HK := Lib.hid hkw
    by_cases hlt : k < s.length
    · have hlt' : (k : Int) < s.length := by omega
      have hcell := hcb.cell k (by rw [low_len]; exact hlt)
      have hfree := hcb.free k (by rw [low_len]; exact hlt)
      rw [low_at s k hlt] at hcell
      have HS := Lib.hid (low_step s k hlt)
      have HE := Lib.hid (low_same s k hlt)
      have HW := Lib.hid (hcb.set k (lowC (byteAt s k)) (by rw [low_len]; exact hlt))
      obtain ⟨c, hc⟩ : ∃ c, byteAt s k = c := ⟨_, rfl⟩
      rw [hc] at hcell HS HE HW
      have hcl := byteAt_lt s k
      rw [hc] at hcl
      clear hcb hkw hc
      by_cases h1 : 65 ≤ c.toNat
      · by_cases h2 : c.toNat ≤ 90
        · have h1' : (65 : Int) ≤ c.toNat := by omega
          have h2' : (c.toNat : Int) ≤ 90 := by omega
          have HU := Lib.hid (lowC_up ⟨h1, h2⟩)
          have HKS : Hid (Kept [] w (wr.setCell ⟨w.heap.size, k, none⟩ (B (lowC c)))) := Lib.hid (HK.out.setCell (.inr (Nat.le_refl _)) _)
          go_wp2_with (fail)
          go_roundw
          case rel => exact ⟨k + 1, by omega, by go_num, by rw [← HS.out, ← HU.out]; exact HW.out, by rw [← HU.out]; exact HKS.out⟩
          case measure => simp [intOf]; omega
        · have h1' : (65 : Int) ≤ c.toNat := by omega
          have h2' : ¬ (c.toNat : Int) ≤ 90 := by omega
          have HL : Hid (lowC c = c) := Lib.hid (by unfold lowC; rw [if_neg (by omega)])
          go_wp2_with (fail)
          go_roundw
          case rel => exact ⟨k + 1, by omega, by go_num, by rw [← HE.out HL.out]; exact HC.out, HK.out⟩
          case measure => simp [intOf]; omega
      · have h1' : ¬ (65 : Int) ≤ c.toNat := by omega
        have HL : Hid (lowC c = c) := Lib.hid (by unfold lowC; rw [if_neg (by omega)])
        go_wp2_with (fail)
        go_roundw
        case rel => exact ⟨k + 1, by omega, by go_num, by rw [← HE.out HL.out]; exact HC.out, HK.out⟩
        case measure => simp [intOf]; omega
    · have hlt' : ¬ (k : Int) < s.length := by omega
      have he : lowL (s.take k) ++ s.drop k = lowL s := by rw [List.take_of_length_le (by omega), List.drop_of_length_le (by omega), List.append_nil]
      rw [he] at hcb
      have hcv := hcb.conv cp
      have hll : (lowL s).length = s.length := by simp [lowL]
      rw [hll] at hcv
      clear hcb hkw he
      go_wp2_with (fail)
      go_ret
      exact ⟨rfl, HK.out⟩
end
end Go.Proofs.YtgdncdhalnijcaaGreatDoor
