/- Walks and lemmas on the program of this seat, used by its statements; each theorem bears its own conditions. -/
import Derived.Test.YtgdncdhalnijcaaDoorGen
import Derived.Lib.IndexMore
import Derived.Lib.SlTrimSet
namespace Go.Proofs.YtgdncdhalnijcaaDoor
open Go.RowKit
set_option linter.unusedVariables false
set_option linter.unusedSimpArgs false
/-! ### Head: texts that may be; where a line ends; heads, line by line -/
def visC (c : UInt8) : Bool := decide (33 ≤ c.toNat) && decide (c.toNat ≤ 126)
def visB (s : List UInt8) : Bool := s.all visC && decide (1 ≤ s.length) && decide (s.length ≤ 64)
def textC (c : UInt8) : Bool := (c.toNat == 9) || (decide (32 ≤ c.toNat) && !(c.toNat == 127))
def textB (s : List UInt8) : Bool := s.all textC
def digC (c : UInt8) : Bool := decide (48 ≤ c.toNat) && decide (c.toNat ≤ 57)
def signsL : List UInt8 := [33, 35, 36, 37, 38, 39, 42, 43, 45, 46, 94, 95, 96, 124, 126]
def letC (c : UInt8) : Bool := (decide (97 ≤ c.toNat) && decide (c.toNat ≤ 122)) || (decide (65 ≤ c.toNat) && decide (c.toNat ≤ 90))
def tokC (c : UInt8) : Bool := letC c || (digC c || signsL.contains c)
def tokB (s : List UInt8) : Bool := s.all tokC && !s.isEmpty
def lowC (c : UInt8) : UInt8 := if 65 ≤ c.toNat ∧ c.toNat ≤ 90 then c + 32 else c
def lowL (s : List UInt8) : List UInt8 := s.map lowC
/-- where the first 13, 10 stands -/
def crlf : List UInt8 → Option Nat
  | [] => none
  | c :: l => if [13, 10].isPrefixOf (c :: l) then some 0 else (crlf l).map (· + 1)
theorem index_crlf (l : List UInt8) : Lib.index l [13, 10] = match crlf l with | some i => (i : Int) | none => -1 := by
  induction l with
  | nil => rfl
  | cons c l ih =>
    unfold Lib.index crlf
    by_cases h : [13, 10].isPrefixOf (c :: l) = true
    · rw [if_pos h, if_pos h]; rfl
    · rw [if_neg h, if_neg h, ih]
      cases crlf l with
      | none => rfl
      | some i =>
        simp only [Option.map_some]
        have : ((i : Int) == -1) = false := by rw [beq_eq_false_iff_ne]; omega
        rw [if_neg (by simp [this])]
        rfl
theorem crlf_spec {l : List UInt8} {i : Nat} (h : crlf l = some i) : i + 2 ≤ l.length ∧ byteAt l i = 13 ∧ byteAt l (i + 1) = 10 := by
  induction l generalizing i with
  | nil => cases h
  | cons c l ih =>
    unfold crlf at h
    by_cases hp : [13, 10].isPrefixOf (c :: l) = true
    · rw [if_pos hp] at h
      cases h
      cases l with
      | nil => simp [List.isPrefixOf] at hp
      | cons d l =>
        simp [List.isPrefixOf] at hp
        obtain ⟨rfl, rfl⟩ := hp
        exact ⟨by simp, rfl, rfl⟩
    · rw [if_neg hp] at h
      cases hc : crlf l with
      | none => rw [hc] at h; cases h
      | some j =>
        rw [hc] at h; cases h
        obtain ⟨h1, h2, h3⟩ := ih hc
        exact ⟨by simp; omega, by simpa [byteAt] using h2, by simpa [byteAt] using h3⟩
theorem crlf_take {l : List UInt8} {i : Nat} (k : Nat) (h : crlf l = some i) : crlf (l.take k) = if i + 2 ≤ k then some i else none := by
  induction l generalizing i k with
  | nil => cases h
  | cons c l ih =>
    unfold crlf at h
    by_cases hp : [13, 10].isPrefixOf (c :: l) = true
    · rw [if_pos hp] at h
      cases h
      cases l with
      | nil => simp [List.isPrefixOf] at hp
      | cons d l =>
        simp [List.isPrefixOf] at hp
        obtain ⟨rfl, rfl⟩ := hp
        match k with
        | 0 => rfl
        | 1 => rfl
        | k + 2 =>
          rw [if_pos (by omega)]
          simp [crlf, List.isPrefixOf]
    · rw [if_neg hp] at h
      cases hc : crlf l with
      | none => rw [hc] at h; cases h
      | some j =>
        rw [hc] at h; cases h
        match k with
        | 0 => rw [if_neg (by omega)]; rfl
        | k + 1 =>
          have hn : ¬ [13, 10].isPrefixOf (c :: l.take k) = true := by
            intro e; apply hp
            cases l with
            | nil => simp at e
            | cons d l =>
              cases k with
              | zero => simp [List.isPrefixOf] at e
              | succ k => simpa [List.isPrefixOf] using e
          show crlf (c :: l.take k) = _
          unfold crlf
          rw [if_neg hn, ih k hc]
          by_cases hk : j + 2 ≤ k
          · rw [if_pos hk, if_pos (by show j + 1 + 2 ≤ k + 1; omega)]; rfl
          · rw [if_neg hk, if_neg (by show ¬ j + 1 + 2 ≤ k + 1; omega)]; rfl
theorem crlf_none_take {l : List UInt8} (k : Nat) (h : crlf l = none) : crlf (l.take k) = none := by
  induction l generalizing k with
  | nil => simp [crlf]
  | cons c l ih =>
    unfold crlf at h
    by_cases hp : [13, 10].isPrefixOf (c :: l) = true
    · rw [if_pos hp] at h; cases h
    · rw [if_neg hp] at h
      cases hc : crlf l with
      | some j => rw [hc] at h; cases h
      | none =>
        match k with
        | 0 => rfl
        | k + 1 =>
          have hn : ¬ [13, 10].isPrefixOf (c :: l.take k) = true := by
            intro e; apply hp
            cases l with
            | nil => simp at e
            | cons d l =>
              cases k with
              | zero => simp [List.isPrefixOf] at e
              | succ k => simpa [List.isPrefixOf] using e
          show crlf (c :: l.take k) = _
          unfold crlf
          rw [if_neg hn, ih k hc]; rfl
theorem crlf_line (a r : List UInt8) (h : ∀ c ∈ a, c ≠ 13) : crlf (a ++ 13 :: 10 :: r) = some a.length := by
  induction a with
  | nil => simp [crlf, List.isPrefixOf]
  | cons c a ih =>
    have hc : ¬ [13, 10].isPrefixOf (c :: (a ++ 13 :: 10 :: r)) = true := by
      simp [List.isPrefixOf]; intro e; exact absurd e.symm (h c (by simp))
    show crlf (c :: (a ++ 13 :: 10 :: r)) = _
    unfold crlf
    rw [if_neg hc, ih fun x hx => h x (by simp [hx])]
    rfl
theorem drop_byte (l : List UInt8) (i : Nat) (h : i < l.length) : l.drop i = byteAt l i :: l.drop (i + 1) := by
  rw [List.drop_eq_getElem_cons h, byteAt_eq l i h]
/-- the step of the reference's search -/
theorem crlf_step (l : List UInt8) (i : Nat) (h : i + 1 < l.length) : crlf (l.drop i) = if byteAt l i = 13 ∧ byteAt l (i + 1) = 10 then some 0 else (crlf (l.drop (i + 1))).map (· + 1) := by
  rw [drop_byte l i (by omega)]
  conv => lhs; unfold crlf
  rw [drop_byte l (i + 1) h]
  by_cases hp : byteAt l i = 13 ∧ byteAt l (i + 1) = 10
  · rw [if_pos hp, if_pos (by simp [List.isPrefixOf, hp.1, hp.2])]
  · rw [if_neg hp, if_neg (by simp [List.isPrefixOf]; intro e1 e2; exact hp ⟨e1.symm, e2.symm⟩)]
theorem crlf_short (l : List UInt8) (i : Nat) (h : l.length ≤ i + 1) : crlf (l.drop i) = none := by
  cases hc : crlf (l.drop i) with
  | none => rfl
  | some j => have := (crlf_spec hc).1; simp at this; omega
def lenCR (l : List UInt8) : Nat := if 0 < l.length ∧ byteAt l (l.length - 1) = 13 then l.length - 1 else l.length
def httpL : List UInt8 := [72, 84, 84, 80, 47, 49, 46]
def statN (l : List UInt8) : Nat := 100 * ((byteAt l 9).toNat - 48) + 10 * ((byteAt l 10).toNat - 48) + ((byteAt l 11).toNat - 48)
/-- the status of a first line; 0: it is none -/
def statF (l : List UInt8) : Nat :=
  if decide (13 ≤ l.length) && (l.take 7 == httpL) && (byteAt l 8 == 32) && (byteAt l 12 == 32) && (digC (byteAt l 7) && digC (byteAt l 9) && digC (byteAt l 10) && digC (byteAt l 11)) && textB (l.drop 13) then
    (if 100 ≤ statN l ∧ statN l ≤ 599 then statN l else 0) else 0
structure Hd where
  st : Nat
  ns : List (List UInt8)
  vs : List (List UInt8)
inductive HR where
  | fail (e : Nat)
  | done (h : Hd) (n : Nat)
  | on (h : Hd) (n : Nat)
def trimF (l : List UInt8) : List UInt8 := Lib.trimS l [32, 9]
def nameL (l : List UInt8) : List UInt8 := l.takeWhile (· != 58)
def fieldF (l : List UInt8) (h : Hd) (m : Nat) : HR :=
  if (nameL l).length = l.length ∨ tokB (nameL l) = false ∨ textB (l.drop ((nameL l).length + 1)) = false then .fail 170
  else if 32 ≤ h.ns.length then .fail 171
  else .on ⟨h.st, h.ns ++ [lowL (nameL l)], h.vs ++ [trimF (l.drop ((nameL l).length + 1))]⟩ m
def turnF (s : List UInt8) (h : Hd) (n : Nat) : HR :=
  match crlf (s.drop n) with
  | none => .fail (if lenCR (s.drop n) ≤ 256 ∧ s.length < 2048 then 172 else 171)
  | some i =>
    if 256 < i ∨ 2048 < n + i + 2 then .fail 171
    else if h.st = 0 then (if statF ((s.drop n).take i) = 0 then .fail 170 else .on ⟨statF ((s.drop n).take i), h.ns, h.vs⟩ (n + i + 2))
    else if i = 0 then .done h (n + 2)
    else fieldF ((s.drop n).take i) h (n + i + 2)
def runF (s : List UInt8) : Nat → Hd → Nat → HR
  | 0, _, _ => .fail 171
  | f + 1, h, n => match turnF s h n with | .on h' n' => runF s f h' n' | r => r
def zeroH : Hd := ⟨0, [], []⟩
def parseF (s : List UInt8) : HR := runF s 3000 zeroH 0
def HR.head : HR → Hd | .done h _ => h | _ => zeroH
def HR.many : HR → Nat | .done _ n => n | _ => 0
def HR.err : HR → Nat | .fail e => e | _ => 0
theorem takeWhile_le {α : Type} (p : α → Bool) (l : List α) : (l.takeWhile p).length ≤ l.length := by
  induction l with
  | nil => simp
  | cons a l ih => unfold List.takeWhile; split <;> simp <;> omega
theorem fieldF_cases (l : List UInt8) (h : Hd) (m : Nat) : fieldF l h m = .fail 170 ∨ fieldF l h m = .fail 171 ∨
    (fieldF l h m = .on ⟨h.st, h.ns ++ [lowL (nameL l)], h.vs ++ [trimF (l.drop ((nameL l).length + 1))]⟩ m ∧ tokB (nameL l) = true ∧ h.ns.length < 32) := by
  unfold fieldF
  split
  · exact .inl rfl
  · rename_i h1
    split
    · exact .inr (.inl rfl)
    · refine .inr (.inr ⟨rfl, ?_, by omega⟩)
      cases ht : tokB (nameL l) with
      | true => rfl
      | false => exact absurd (.inr (.inl ht)) h1
theorem fieldF_done (l : List UInt8) (h h' : Hd) (m m' : Nat) : fieldF l h m ≠ .done h' m' := by
  rcases fieldF_cases l h m with e | e | ⟨e, _⟩ <;> rw [e] <;> intro x <;> cases x
/-- what a turn that goes on says -/
theorem turnF_on {s : List UInt8} {h h' : Hd} {n n' : Nat} (ht : turnF s h n = .on h' n') : ∃ i, crlf (s.drop n) = some i ∧ i ≤ 256 ∧ n' = n + i + 2 ∧ n' ≤ 2048 ∧ n' ≤ s.length := by
  unfold turnF at ht
  cases hc : crlf (s.drop n) with
  | none => rw [hc] at ht; cases ht
  | some i =>
    rw [hc] at ht
    simp only at ht
    have hs := (crlf_spec hc).1
    simp at hs
    split at ht
    · cases ht
    · rename_i hn
      refine ⟨i, rfl, by omega, ?_⟩
      have hm : n' = n + i + 2 := by
        split at ht
        · split at ht
          · cases ht
          · cases ht; rfl
        · split at ht
          · cases ht
          · rcases fieldF_cases ((s.drop n).take i) h (n + i + 2) with e | e | ⟨e, _⟩ <;> rw [e] at ht <;> cases ht
            rfl
      exact ⟨hm, by omega, by omega⟩
theorem turnF_done {s : List UInt8} {h h' : Hd} {n n' : Nat} (ht : turnF s h n = .done h' n') : crlf (s.drop n) = some 0 ∧ n' = n + 2 ∧ h' = h ∧ h.st ≠ 0 ∧ n' ≤ 2048 ∧ n' ≤ s.length := by
  unfold turnF at ht
  cases hc : crlf (s.drop n) with
  | none => rw [hc] at ht; cases ht
  | some i =>
    rw [hc] at ht
    simp only at ht
    have hs := (crlf_spec hc).1
    simp at hs
    split at ht
    · cases ht
    · split at ht
      · split at ht <;> cases ht
      · split at ht
        · rename_i h1 h2 h3
          cases ht
          subst h3
          exact ⟨rfl, rfl, rfl, h2, by omega, by omega⟩
        · exact absurd ht (fieldF_done _ _ _ _ _)
theorem runF_ge {s : List UInt8} : ∀ (f : Nat) {h h' : Hd} {n m : Nat}, runF s f h n = .done h' m → n + 2 ≤ m ∧ m ≤ 2048 ∧ m ≤ s.length
  | 0, _, _, _, _, hr => by cases hr
  | f + 1, h, h', n, m, hr => by
    unfold runF at hr
    cases ht : turnF s h n with
    | fail e => rw [ht] at hr; cases hr
    | done h1 n1 =>
      rw [ht] at hr; cases hr
      have := turnF_done ht; omega
    | on h1 n1 =>
      rw [ht] at hr
      obtain ⟨i, _, _, e, _⟩ := turnF_on ht
      have := runF_ge f hr
      omega
theorem runF_on (s : List UInt8) : ∀ (f : Nat) (h h' : Hd) (n m : Nat), runF s f h n ≠ .on h' m
  | 0, _, _, _, _ => by intro e; cases e
  | f + 1, h, h', n, m => by
    unfold runF
    cases ht : turnF s h n with
    | fail e => intro e; cases e
    | done h1 n1 => intro e; cases e
    | on h1 n1 => exact runF_on s f _ _ _ _
theorem lenCR_take (l : List UInt8) (k : Nat) (h : lenCR l ≤ 256) : lenCR (l.take k) ≤ 256 := by
  unfold lenCR at h ⊢
  by_cases hk : l.length ≤ k
  · rw [List.take_of_length_le hk]; exact h
  · have : (l.take k).length = k := by simp; omega
    rw [this]
    split at h
    · split <;> omega
    · split <;> omega
/-- a line that is cut short -/
theorem lenCR_cut {l : List UInt8} {i k : Nat} (h : crlf l = some i) (hk : k < i + 2) (hi : i ≤ 256) : lenCR (l.take k) ≤ 256 := by
  obtain ⟨h1, h2, _⟩ := crlf_spec h
  have hl : (l.take k).length = k := by simp; omega
  unfold lenCR
  rw [hl]
  by_cases hk1 : k = i + 1
  · subst hk1
    have : byteAt (l.take (i + 1)) (i + 1 - 1) = 13 := by
      rw [← h2]; unfold byteAt; simp [List.getD_eq_getElem?_getD]
    rw [if_pos ⟨by omega, this⟩]; omega
  · split <;> omega
/-- THE CUT: a head of a text cut short -/
theorem runF_cut (s : List UInt8) (k : Nat) (hk : k ≤ s.length) : ∀ (f : Nat) (h : Hd) (n : Nat), n ≤ k →
    (runF (s.take k) f h n = runF s f h n ∧ ∀ h' m, runF s f h n = .done h' m → m ≤ k) ∨ (runF (s.take k) f h n = .fail 172 ∧ ∀ h' m, runF s f h n = .done h' m → k < m)
  | 0, h, n, _ => .inl ⟨rfl, fun _ _ e => by cases e⟩
  | f + 1, h, n, hn => by
    have hd : (s.take k).drop n = (s.drop n).take (k - n) := by rw [List.drop_take]
    have hl : (s.take k).length = k := by simp; omega
    cases hc : crlf (s.drop n) with
    | none =>
      have hc2 : crlf ((s.take k).drop n) = none := by rw [hd]; exact crlf_none_take _ hc
      have e1 : turnF s h n = .fail (if lenCR (s.drop n) ≤ 256 ∧ s.length < 2048 then 172 else 171) := by unfold turnF; rw [hc]
      have e2 : turnF (s.take k) h n = .fail (if lenCR ((s.drop n).take (k - n)) ≤ 256 ∧ k < 2048 then 172 else 171) := by unfold turnF; rw [hc2, hd, hl]
      have r1 : runF s (f + 1) h n = .fail (if lenCR (s.drop n) ≤ 256 ∧ s.length < 2048 then 172 else 171) := by unfold runF; rw [e1]
      have r2 : runF (s.take k) (f + 1) h n = .fail (if lenCR ((s.drop n).take (k - n)) ≤ 256 ∧ k < 2048 then 172 else 171) := by unfold runF; rw [e2]
      rw [r1, r2]
      by_cases hb : lenCR ((s.drop n).take (k - n)) ≤ 256 ∧ k < 2048
      · rw [if_pos hb]; exact .inr ⟨rfl, fun _ _ e => by cases e⟩
      · rw [if_neg hb]
        by_cases ha : lenCR (s.drop n) ≤ 256 ∧ s.length < 2048
        · exact absurd ⟨lenCR_take _ _ ha.1, by omega⟩ hb
        · rw [if_neg ha]; exact .inl ⟨rfl, fun _ _ e => by cases e⟩
    | some i =>
      have hs := (crlf_spec hc).1
      simp at hs
      have hct := crlf_take (k - n) hc
      by_cases hik : i + 2 ≤ k - n
      · rw [if_pos hik] at hct
        have ht : turnF (s.take k) h n = turnF s h n := by
          have e3 : ((s.drop n).take (k - n)).take i = (s.drop n).take i := by rw [List.take_take]; congr 1; omega
          unfold turnF
          rw [hd, hct, hc]
          simp only [e3]
        have e1 : runF (s.take k) (f + 1) h n = (match turnF s h n with | .on h' n' => runF (s.take k) f h' n' | r => r) := by rw [← ht]; rfl
        have e2 : runF s (f + 1) h n = (match turnF s h n with | .on h' n' => runF s f h' n' | r => r) := rfl
        cases hr : turnF s h n with
        | fail e => rw [e1, e2, hr]; exact .inl ⟨rfl, fun _ _ e => by cases e⟩
        | done h1 n1 =>
          rw [e1, e2, hr]
          refine .inl ⟨rfl, fun _ _ e => ?_⟩
          cases e
          obtain ⟨h0, e0, _⟩ := turnF_done hr
          rw [hc] at h0; cases h0; omega
        | on h1 n1 =>
          rw [e1, e2, hr]
          obtain ⟨j, hj, _, e0, _⟩ := turnF_on hr
          rw [hc] at hj; cases hj
          exact runF_cut s k hk f h1 n1 (by omega)
      · rw [if_neg hik] at hct
        have r2 : runF (s.take k) (f + 1) h n = .fail (if lenCR ((s.drop n).take (k - n)) ≤ 256 ∧ k < 2048 then 172 else 171) := by
          unfold runF turnF; rw [hd, hct, hl]
        by_cases hb : lenCR ((s.drop n).take (k - n)) ≤ 256 ∧ k < 2048
        · rw [if_pos hb] at r2
          refine .inr ⟨r2, fun h' m e => ?_⟩
          unfold runF at e
          cases hr : turnF s h n with
          | fail e' => rw [hr] at e; cases e
          | done h1 n1 =>
            rw [hr] at e; cases e
            obtain ⟨h0, e0, _⟩ := turnF_done hr
            rw [hc] at h0; cases h0; omega
          | on h1 n1 =>
            rw [hr] at e
            obtain ⟨j, hj, _, e0, _⟩ := turnF_on hr
            rw [hc] at hj; cases hj
            have := runF_ge f e
            omega
        · rw [if_neg hb] at r2
          have hbig : 256 < i ∨ 2048 < n + i + 2 := by
            by_cases hi : i ≤ 256
            · right
              have := lenCR_cut hc (by omega : k - n < i + 2) hi
              by_cases hk2 : k < 2048
              · exact absurd ⟨this, hk2⟩ hb
              · omega
            · left; omega
          have r1 : runF s (f + 1) h n = .fail 171 := by
            unfold runF turnF; rw [hc]; simp only; rw [if_pos hbig]
          exact .inl ⟨by rw [r1, r2], fun _ _ e => by rw [r1] at e; cases e⟩
theorem parse_cut (s : List UInt8) (k : Nat) (hk : k ≤ s.length) :
    (parseF (s.take k) = parseF s ∧ ∀ h' m, parseF s = .done h' m → m ≤ k) ∨ (parseF (s.take k) = .fail 172 ∧ ∀ h' m, parseF s = .done h' m → k < m) :=
  runF_cut s k hk 3000 zeroH 0 (Nat.zero_le _)
theorem parse_append {s : List UInt8} (more : List UInt8) {h : Hd} {n : Nat} (hp : parseF s = .done h n) : parseF (s ++ more) = .done h n := by
  have ht : (s ++ more).take s.length = s := by simp
  rcases parse_cut (s ++ more) s.length (by simp) with ⟨h1, _⟩ | ⟨h1, _⟩
  · rw [ht] at h1; rw [← h1, hp]
  · rw [ht, hp] at h1; cases h1
end Go.Proofs.YtgdncdhalnijcaaDoor
