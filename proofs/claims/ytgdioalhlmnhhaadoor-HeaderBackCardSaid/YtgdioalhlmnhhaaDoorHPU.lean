/- Walks and lemmas on the program of this seat, used by its statements; each theorem bears its own conditions. -/
import Derived.Test.YtgdioalhlmnhhaaDoorPureD
import Derived.Lib.ItoaNum
import Derived.Lib.AtoiTie
namespace Go.Proofs.YtgdioalhlmnhhaaDoor
open Go.RowKit
set_option linter.unusedVariables false
set_option linter.unusedSimpArgs false
namespace WX
open Go.Lib
/-! ### Headers -/
structure Hr where
  nm : List UInt8
  ds : List (List UInt8)
  sz : Int
def zeroR : Hr := ⟨[], [], 0⟩
def nameP : List UInt8 := [110, 97, 109, 101, 32]
def devP : List UInt8 := [100, 101, 118, 105, 99, 101, 32]
def sizeP : List UInt8 := [115, 105, 122, 101, 32]
def okH (h : Hr) : Bool := nameB h.nm && (decide (1 ≤ h.sz) && (decide (h.sz ≤ 131072) && (decide (h.ds.length ≤ 8) && h.ds.all nameB)))
def nameLn (n : List UInt8) : List UInt8 := nameP ++ n
def devLn (d : List UInt8) : List UInt8 := devP ++ d
def sizeLn (n : Int) : List UInt8 := sizeP ++ decDigits n.toNat
/-- lines, each with its end -/
def laidL (ls : List (List UInt8)) : List UInt8 := ls.flatMap fun l => l ++ [10]
def headLs (h : Hr) : List (List UInt8) := nameLn h.nm :: (h.ds.map devLn ++ [sizeLn h.sz])
def headT (h : Hr) : List UInt8 := laidL (headLs h)
def printF (h : Hr) : List UInt8 × Int :=
  if okH h = false then ([], 210) else if ¬ h.ds.Nodup then ([], 211) else if h.ds = [] then ([], 212) else (headT h, 0)
/-- the lines of a text: what stands ahead of each 10, and behind the last one -/
def linesG : List UInt8 → List (List UInt8)
  | [] => []
  | b :: l => if b = 10 then [] :: linesG l else match linesG l with | p :: ps => (b :: p) :: ps | [] => [[b]]
def ends10 (s : List UInt8) : Bool := s.getLast? == some 10
theorem ends10_cons (b c : UInt8) (l : List UInt8) : ends10 (b :: c :: l) = ends10 (c :: l) := by unfold ends10; rw [List.getLast?_cons_cons]
theorem linesG_ne {l : List UInt8} (h : l ≠ []) : linesG l ≠ [] := by
  cases l with
  | nil => exact absurd rfl h
  | cons b l => unfold linesG; split; simp; split <;> simp
theorem linesG_append (a x : List UInt8) (h : a = [] ∨ ends10 a = true) : linesG (a ++ x) = linesG a ++ linesG x := by
  induction a with
  | nil => rfl
  | cons b a ih =>
    have ih' := ih (by
      cases a with
      | nil => exact .inl rfl
      | cons c a => right; rcases h with h | h; cases h; rwa [ends10_cons] at h)
    rw [List.cons_append]
    conv => lhs; unfold linesG
    conv => rhs; lhs; unfold linesG
    by_cases hb : b = 10
    · rw [if_pos hb, if_pos hb, ih']; rfl
    · rw [if_neg hb, if_neg hb, ih']
      have hne : a ≠ [] := by
        intro e; subst e
        rcases h with h | h
        · cases h
        · simp [ends10] at h; exact hb h
      cases hl : linesG a with
      | nil => exact absurd hl (linesG_ne hne)
      | cons p ps => rfl
theorem linesG_line (a : List UInt8) (h : ∀ c ∈ a, c ≠ 10) : linesG (a ++ [10]) = [a] := by
  induction a with
  | nil => rfl
  | cons b a ih =>
    rw [List.cons_append]
    unfold linesG
    rw [if_neg (h b (by simp)), ih fun c hc => h c (by simp [hc])]
theorem linesG_clean (a : List UInt8) (h : ∀ c ∈ a, c ≠ 10) (hn : a ≠ []) : linesG a = [a] := by
  induction a with
  | nil => exact absurd rfl hn
  | cons b a ih =>
    unfold linesG
    rw [if_neg (h b (by simp))]
    cases a with
    | nil => rfl
    | cons c a => rw [ih (fun c hc => h c (by simp [hc])) (by simp)]
theorem ends10_app (a : List UInt8) : ends10 (a ++ [10]) = true := by simp [ends10]
theorem linesG_snoc (a b : List UInt8) (ha : a = [] ∨ ends10 a = true) (hb : ∀ c ∈ b, c ≠ 10) : linesG (a ++ (b ++ [10])) = linesG a ++ [b] := by
  rw [linesG_append a _ ha, linesG_line b hb]
/-- the head's first line, and what is behind it -/
def cutA (s : List UInt8) : List UInt8 := s.takeWhile (· != 10)
def cutZ (s : List UInt8) : List UInt8 := s.drop ((cutA s).length + 1)
theorem cutA_no (s : List UInt8) : ∀ c ∈ cutA s, c ≠ 10 := by
  intro c hc
  induction s with
  | nil => cases hc
  | cons b s ih =>
    unfold cutA at hc ih
    rw [List.takeWhile_cons] at hc
    split at hc
    · rename_i hb
      rcases List.mem_cons.1 hc with rfl | hc
      · simpa using hb
      · exact ih hc
    · cases hc
theorem linesG_cut (s : List UInt8) (h : s ≠ []) : linesG s = cutA s :: linesG (cutZ s) := by
  induction s with
  | nil => exact absurd rfl h
  | cons b s ih =>
    conv => lhs; unfold linesG
    by_cases hb : b = 10
    · rw [if_pos hb]; subst hb; rfl
    · rw [if_neg hb]
      have e1 : cutA (b :: s) = b :: cutA s := by unfold cutA; rw [List.takeWhile_cons, if_pos (by simpa using hb)]
      have e2 : cutZ (b :: s) = cutZ s := by unfold cutZ; rw [e1]; rfl
      rw [e1, e2]
      by_cases hs : s = []
      · subst hs; rfl
      · rw [ih hs]
theorem linesG_len (s : List UInt8) : (linesG s).length ≤ s.length := by
  induction s with
  | nil => simp [linesG]
  | cons b s ih =>
    unfold linesG
    split
    · simp; exact ih
    · cases hl : linesG s with
      | nil => simp
      | cons p ps => rw [hl] at ih; simp at ih ⊢; omega
theorem linesG_each (s : List UInt8) : ∀ l ∈ linesG s, l.length ≤ s.length := by
  induction s with
  | nil => simp [linesG]
  | cons b s ih =>
    unfold linesG
    split
    · intro l hl
      rcases List.mem_cons.1 hl with rfl | hl
      · simp
      · have := ih l hl; simp; omega
    · cases hl : linesG s with
      | nil => simp
      | cons p ps =>
        rw [hl] at ih
        intro l hl
        rcases List.mem_cons.1 hl with rfl | hl
        · have := ih p (by simp); simp; omega
        · have := ih l (by simp [hl]); simp; omega
theorem laidL_cons (l : List UInt8) (ls : List (List UInt8)) : laidL (l :: ls) = (l ++ [10]) ++ laidL ls := rfl
theorem laidL_append (a b : List (List UInt8)) : laidL (a ++ b) = laidL a ++ laidL b := by simp [laidL]
theorem laidL_ends (ls : List (List UInt8)) (h : ls ≠ []) : ends10 (laidL ls) = true := by
  have e : ls = ls.dropLast ++ [ls.getLast h] := (List.dropLast_concat_getLast h).symm
  rw [e, laidL_append]
  have : laidL [ls.getLast h] = ls.getLast h ++ [10] := by simp [laidL]
  rw [this, ← List.append_assoc]
  exact ends10_app _
theorem linesG_laid (ls : List (List UInt8)) (h : ∀ l ∈ ls, ∀ c ∈ l, c ≠ 10) : linesG (laidL ls) = ls := by
  induction ls with
  | nil => rfl
  | cons l ls ih =>
    rw [laidL_cons, linesG_append _ _ (.inr (ends10_app l)), linesG_line l (h l (by simp)), ih fun x hx => h x (by simp [hx])]
    rfl
theorem laid_linesG (s : List UInt8) (h : s = [] ∨ ends10 s = true) : laidL (linesG s) = s := by
  induction s with
  | nil => rfl
  | cons b s ih =>
    have ih' := ih (by
      cases s with
      | nil => exact .inl rfl
      | cons c a => right; rcases h with h | h; cases h; rwa [ends10_cons] at h)
    unfold linesG
    by_cases hb : b = 10
    · rw [if_pos hb, laidL_cons, ih', hb]; rfl
    · rw [if_neg hb]
      have hne : s ≠ [] := by
        intro e; subst e
        rcases h with h | h
        · cases h
        · simp [ends10] at h; exact hb h
      cases hl : linesG s with
      | nil => exact absurd hl (linesG_ne hne)
      | cons p ps => simp only; rw [hl] at ih'; rw [laidL_cons] at ih' ⊢; rw [← ih']; rfl
/-- a line's kind -/
def isK (k l : List UInt8) : Bool := k.isPrefixOf l && decide (k.length < l.length)
def kindL (l : List UInt8) : List UInt8 := if isK nameP l then nameP else if isK devP l then devP else if isK sizeP l then sizeP else []
def atoiV (l : List UInt8) : Int := match atoiAll l with | .ok v => v | .«syntax» => 0 | _ => atoiSat l
def takeP (h : Hr) (l : List UInt8) : Hr :=
  if isK nameP l then { h with nm := l.drop 5 } else if isK devP l then (if h.ds.length ≤ 8 then { h with ds := h.ds ++ [l.drop 7] } else h) else if isK sizeP l then { h with sz := atoiV (l.drop 5) } else h
def readP (s : List UInt8) : Hr := (linesG s).foldl takeP zeroR
def kindN (k : List UInt8) (ls : List (List UInt8)) : Nat := ls.countP (isK k)
def twiceB (ls : List (List UInt8)) : Bool := !decide ls.Nodup || (decide (1 < kindN nameP ls) || decide (1 < kindN sizeP ls))
def whyF (s : List UInt8) : Int :=
  if ends10 s = false then 210 else if (linesG s).all (fun l => kindL l != []) = false then 210
  else if kindN nameP (linesG s) = 0 ∨ kindN devP (linesG s) = 0 ∨ kindN sizeP (linesG s) = 0 then 212 else if twiceB (linesG s) = true then 211 else 210
def parseF (s : List UInt8) : Hr × Int := if printF (readP s) = (s, 0) then (readP s, 0) else (zeroR, whyF s)
/-- the document's reading -/
def sizeF : Nat → List UInt8 → Int → Int
  | 0, _, n => n
  | _ + 1, [], n => n
  | k + 1, c :: l, n => sizeF k l (10 * n + c.toNat - 48)
def takeR (h : Hr) (l : List UInt8) : Hr :=
  if isK nameP l then { h with nm := l.drop 5 } else if isK devP l then { h with ds := h.ds ++ [l.drop 7] } else if isK sizeP l then { h with sz := sizeF 7 (l.drop 5) 0 } else h
def readR (s : List UInt8) : Hr := (linesG s).foldl takeR zeroR
def parseR (s : List UInt8) : Hr × Int :=
  if whyF s = 212 ∨ whyF s = 211 ∨ ends10 s = false ∨ (linesG s).all (fun l => kindL l != []) = false then (zeroR, whyF s) else if printF (readR s) = (s, 0) then (readR s, 0) else (zeroR, 210)
theorem isK_app (k l : List UInt8) (h : l ≠ []) : isK k (k ++ l) = true := by
  unfold isK
  simp only [Bool.and_eq_true, decide_eq_true_eq, List.length_append]
  have : l.length ≠ 0 := by simpa using h
  exact ⟨by simp, by omega⟩
theorem isK_len {k l : List UInt8} (h : isK k l = true) : k.length < l.length := by
  simp only [isK, Bool.and_eq_true, decide_eq_true_eq] at h; exact h.2
theorem isK_pre {k l : List UInt8} (h : isK k l = true) : l = k ++ l.drop k.length := by
  simp only [isK, Bool.and_eq_true] at h
  obtain ⟨t, rfl⟩ := List.isPrefixOf_iff_prefix.1 h.1
  simp
theorem isK_nd (l : List UInt8) : isK nameP (devP ++ l) = false := by simp [isK, nameP, devP, List.isPrefixOf]
theorem isK_ns (l : List UInt8) : isK nameP (sizeP ++ l) = false := by simp [isK, nameP, sizeP, List.isPrefixOf]
theorem isK_ds (l : List UInt8) : isK devP (sizeP ++ l) = false := by simp [isK, devP, sizeP, List.isPrefixOf]
theorem isK_dn (l : List UInt8) : isK devP (nameP ++ l) = false := by simp [isK, devP, nameP, List.isPrefixOf]
theorem isK_sn (l : List UInt8) : isK sizeP (nameP ++ l) = false := by simp [isK, sizeP, nameP, List.isPrefixOf]
theorem isK_sd (l : List UInt8) : isK sizeP (devP ++ l) = false := by simp [isK, sizeP, devP, List.isPrefixOf]
theorem nameB_ne {l : List UInt8} (h : nameB l = true) : l ≠ [] := by intro e; subst e; exact absurd h (by decide)
theorem nameB_10 {l : List UInt8} (h : nameB l = true) : ∀ c ∈ l, c ≠ 10 := by
  intro c hc e; subst e
  have := (nameB_bytes h 10 hc).1
  exact absurd this (by decide)
theorem dec_bytes (n : Nat) : ∀ c ∈ decDigits n, 48 ≤ c.toNat ∧ c.toNat ≤ 57 := by
  induction n using Nat.strongRecOn with
  | _ n ih =>
    intro c hc
    rw [decDigits] at hc
    split at hc
    · rename_i h
      rw [List.mem_singleton] at hc; subst hc
      rw [UInt8.toNat_ofNat']; omega
    · rename_i h
      rcases List.mem_append.1 hc with hc | hc
      · exact ih (n / 10) (by omega) c hc
      · rw [List.mem_singleton] at hc; subst hc
        rw [UInt8.toNat_ofNat']; omega
theorem dec_ne (n : Nat) : decDigits n ≠ [] := by rw [decDigits]; split <;> simp
theorem sizeF_app (a b : List UInt8) : ∀ (k : Nat) (n : Int), sizeF (a.length + k) (a ++ b) n = sizeF k b (sizeF a.length a n) := by
  induction a with
  | nil => intro k n; simp [sizeF]
  | cons c a ih => intro k n; rw [List.length_cons, show a.length + 1 + k = (a.length + k) + 1 by omega, List.cons_append]; simp only [sizeF]; exact ih k _
theorem sizeF_dec (n : Nat) : sizeF (decDigits n).length (decDigits n) 0 = n := by
  induction n using Nat.strongRecOn with
  | _ n ih =>
    rw [decDigits]
    split
    · rename_i h
      simp only [List.length_singleton, sizeF]
      rw [UInt8.toNat_ofNat']; omega
    · rename_i h
      rw [List.length_append, sizeF_app, ih (n / 10) (by omega)]
      simp only [List.length_singleton, sizeF]
      rw [UInt8.toNat_ofNat']; omega
theorem sizeF_nil (k : Nat) (n : Int) : sizeF k [] n = n := by cases k <;> rfl
theorem sizeF_more (n k : Nat) (h : (decDigits n).length ≤ k) : sizeF k (decDigits n) 0 = n := by
  have := sizeF_app (decDigits n) [] (k - (decDigits n).length) 0
  rw [List.append_nil, show (decDigits n).length + (k - (decDigits n).length) = k by omega, sizeF_dec, sizeF_nil] at this
  exact this
end WX
namespace WX
open Go.Lib
/-! ### A header's own text -/
theorem printF_some {h : Hr} {s : List UInt8} (hp : printF h = (s, 0)) : okH h = true ∧ h.ds.Nodup ∧ h.ds ≠ [] ∧ s = headT h := by
  unfold printF at hp
  split at hp
  · cases hp
  · rename_i h1
    split at hp
    · cases hp
    · rename_i h2
      split at hp
      · cases hp
      · rename_i h3
        simp only [Prod.mk.injEq] at hp
        exact ⟨by simpa using h1, by simpa using h2, h3, hp.1.symm⟩
theorem printF_mk {h : Hr} (h1 : okH h = true) (h2 : h.ds.Nodup) (h3 : h.ds ≠ []) : printF h = (headT h, 0) := by
  unfold printF
  rw [if_neg (by simp [h1]), if_neg (by simpa using h2), if_neg h3]
theorem okH_parts {h : Hr} (ho : okH h = true) : nameB h.nm = true ∧ 1 ≤ h.sz ∧ h.sz ≤ 131072 ∧ h.ds.length ≤ 8 ∧ ∀ d ∈ h.ds, nameB d = true := by
  simp only [okH, Bool.and_eq_true, decide_eq_true_eq, List.all_eq_true] at ho
  exact ⟨ho.1, ho.2.1, ho.2.2.1, ho.2.2.2.1, ho.2.2.2.2⟩
theorem headLs_10 {h : Hr} (ho : okH h = true) : ∀ l ∈ headLs h, ∀ c ∈ l, c ≠ 10 := by
  obtain ⟨h1, _, _, _, h5⟩ := okH_parts ho
  have n10 : ∀ c ∈ nameP, c ≠ 10 := by decide
  have d10 : ∀ c ∈ devP, c ≠ 10 := by decide
  have s10 : ∀ c ∈ sizeP, c ≠ 10 := by decide
  intro l hl c hc
  simp only [headLs, List.mem_cons, List.mem_append, List.mem_map, List.not_mem_nil, or_false] at hl
  rcases hl with rfl | ⟨d, hd, rfl⟩ | rfl
  · rcases List.mem_append.1 hc with hc | hc
    · exact n10 c hc
    · exact nameB_10 h1 c hc
  · rcases List.mem_append.1 hc with hc | hc
    · exact d10 c hc
    · exact nameB_10 (h5 d hd) c hc
  · rcases List.mem_append.1 hc with hc | hc
    · exact s10 c hc
    · intro e; subst e
      have := (dec_bytes _ 10 hc).1
      exact absurd this (by decide)
theorem dec_len6 (n : Nat) (h : n ≤ 131072) : (decDigits n).length ≤ 6 := by
  have key : ∀ k n, n < 10 ^ (k + 1) → (decDigits n).length ≤ k + 1 := by
    intro k
    induction k with
    | zero => intro n h; rw [decDigits, dif_pos (by simpa using h)]; simp
    | succ k ih =>
      intro n h
      rw [decDigits]
      split
      · simp
      · have := ih (n / 10) (by rw [Nat.pow_succ] at h; omega)
        simp; omega
  exact key 5 n (by omega)
theorem digitVal_dig (d : Nat) (h : d < 10) : Lib.digitVal (UInt8.ofNat (48 + d)) = some d := by
  have : ∀ d : Fin 10, Lib.digitVal (UInt8.ofNat (48 + d.val)) = some d.val := by decide
  exact this ⟨d, h⟩
theorem decFrom_app (a b : List UInt8) : ∀ acc m, Lib.decFrom acc a = some m → Lib.decFrom acc (a ++ b) = Lib.decFrom m b := by
  induction a with
  | nil => intro acc m h; simp [Lib.decFrom] at h; subst h; rfl
  | cons x a ih =>
    intro acc m h
    simp only [Lib.decFrom, List.cons_append] at h ⊢
    cases hx : Lib.digitVal x with
    | none => simp [hx] at h
    | some d => simp only [hx] at h ⊢; exact ih _ _ h
theorem decFrom_dec (n : Nat) : Lib.decFrom 0 (decDigits n) = some n := by
  induction n using Nat.strongRecOn with
  | _ n ih =>
    rw [decDigits]
    split
    · rename_i h
      have e := digitVal_dig n h
      simp only [Lib.decFrom, e]
      simp
    · rename_i h
      rw [decFrom_app _ _ _ _ (ih (n / 10) (by omega))]
      simp only [Lib.decFrom, digitVal_dig (n % 10) (by omega)]
      congr 1; omega
theorem atoi_dec (n : Nat) : Lib.atoi (decDigits n) = some (n : Int) := by
  have hd := decFrom_dec n
  cases hl : decDigits n with
  | nil => exact absurd hl (dec_ne n)
  | cons c r =>
    have hc := dec_bytes n c (by rw [hl]; simp)
    rw [hl] at hd
    have n1 : (c == 45) = false := by rw [beq_eq_false_iff_ne]; intro e; subst e; exact absurd hc.1 (by decide)
    have n2 : (c == 43) = false := by rw [beq_eq_false_iff_ne]; intro e; subst e; exact absurd hc.1 (by decide)
    unfold Lib.atoi
    simp only [n1, n2, Bool.false_eq_true, if_false, Lib.decNat, List.isEmpty_cons, hd]
    simp
theorem atoiV_dec (n : Nat) (h : n ≤ 131072) : atoiV (decDigits n) = n := by
  unfold atoiV
  rw [atoiAll_short _ (by have := dec_len6 n h; omega), atoi_dec]
  rfl
theorem takeP_name (h : Hr) (n : List UInt8) (hn : n ≠ []) : takeP h (nameLn n) = { h with nm := n } := by
  unfold takeP nameLn
  rw [if_pos (isK_app nameP n hn)]; rfl
theorem takeR_name (h : Hr) (n : List UInt8) (hn : n ≠ []) : takeR h (nameLn n) = { h with nm := n } := by
  unfold takeR nameLn
  rw [if_pos (isK_app nameP n hn)]; rfl
theorem takeP_dev (h : Hr) (d : List UInt8) (hd : d ≠ []) (hl : h.ds.length ≤ 8) : takeP h (devLn d) = { h with ds := h.ds ++ [d] } := by
  unfold takeP devLn
  rw [if_neg (by rw [isK_nd]; simp), if_pos (isK_app devP d hd), if_pos hl]; rfl
theorem takeR_dev (h : Hr) (d : List UInt8) (hd : d ≠ []) : takeR h (devLn d) = { h with ds := h.ds ++ [d] } := by
  unfold takeR devLn
  rw [if_neg (by rw [isK_nd]; simp), if_pos (isK_app devP d hd)]; rfl
theorem takeP_size (h : Hr) (n : Int) (h0 : 0 ≤ n) (hn : n ≤ 131072) : takeP h (sizeLn n) = { h with sz := n } := by
  unfold takeP sizeLn
  rw [if_neg (by rw [isK_ns]; simp), if_neg (by rw [isK_ds]; simp), if_pos (isK_app sizeP _ (dec_ne _))]
  show { h with sz := atoiV (decDigits n.toNat) } = _
  rw [atoiV_dec _ (by omega)]
  congr 1; omega
theorem takeR_size (h : Hr) (n : Int) (h0 : 0 ≤ n) (hn : n ≤ 131072) : takeR h (sizeLn n) = { h with sz := n } := by
  unfold takeR sizeLn
  rw [if_neg (by rw [isK_ns]; simp), if_neg (by rw [isK_ds]; simp), if_pos (isK_app sizeP _ (dec_ne _))]
  show { h with sz := sizeF 7 (decDigits n.toNat) 0 } = _
  rw [sizeF_more _ 7 (by have := dec_len6 n.toNat (by omega); omega)]
  congr 1; omega
theorem devsP : ∀ (ds : List (List UInt8)) (h : Hr), (∀ d ∈ ds, d ≠ []) → h.ds.length + ds.length ≤ 9 → (ds.map devLn).foldl takeP h = { h with ds := h.ds ++ ds }
  | [], h, _, _ => by simp
  | d :: ds, h, hd, hl => by
    simp only [List.length_cons] at hl
    rw [List.map_cons, List.foldl_cons, takeP_dev h d (hd d (by simp)) (by omega), devsP ds _ (fun x hx => hd x (by simp [hx])) (by simp; omega)]
    simp
theorem devsR : ∀ (ds : List (List UInt8)) (h : Hr), (∀ d ∈ ds, d ≠ []) → (ds.map devLn).foldl takeR h = { h with ds := h.ds ++ ds }
  | [], h, _ => by simp
  | d :: ds, h, hd => by
    rw [List.map_cons, List.foldl_cons, takeR_dev h d (hd d (by simp)), devsR ds _ (fun x hx => hd x (by simp [hx]))]
    simp
theorem devLn_inj {a b : List UInt8} (h : devLn a = devLn b) : a = b := List.append_cancel_left h
theorem kinds_head {h : Hr} (ho : okH h = true) : kindN nameP (headLs h) = 1 ∧ kindN devP (headLs h) = h.ds.length ∧ kindN sizeP (headLs h) = 1 ∧ ∀ l ∈ headLs h, kindL l ≠ [] := by
  obtain ⟨h1, _, _, _, h5⟩ := okH_parts ho
  have e1 := isK_app nameP h.nm (nameB_ne h1)
  have e3 := isK_app sizeP (decDigits h.sz.toNat) (dec_ne _)
  have c1 : (h.ds.map devLn).countP (isK nameP) = 0 := by
    rw [List.countP_eq_zero]; intro l hl
    obtain ⟨d, _, rfl⟩ := List.mem_map.1 hl
    unfold devLn; rw [isK_nd]; simp
  have c2 : (h.ds.map devLn).countP (isK devP) = h.ds.length := by
    rw [show h.ds.length = (h.ds.map devLn).length by simp, List.countP_eq_length]
    intro l hl
    obtain ⟨d, hd, rfl⟩ := List.mem_map.1 hl
    exact isK_app devP d (nameB_ne (h5 d hd))
  have c3 : (h.ds.map devLn).countP (isK sizeP) = 0 := by
    rw [List.countP_eq_zero]; intro l hl
    obtain ⟨d, _, rfl⟩ := List.mem_map.1 hl
    unfold devLn; rw [isK_sd]; simp
  refine ⟨?_, ?_, ?_, ?_⟩
  · unfold kindN headLs
    rw [List.countP_cons, List.countP_append, c1]
    unfold nameLn sizeLn
    rw [List.countP_cons, List.countP_nil, e1, isK_ns]; simp
  · unfold kindN headLs
    rw [List.countP_cons, List.countP_append, c2]
    unfold nameLn sizeLn
    rw [List.countP_cons, List.countP_nil, isK_dn, isK_ds]; simp
  · unfold kindN headLs
    rw [List.countP_cons, List.countP_append, c3]
    unfold nameLn sizeLn
    rw [List.countP_cons, List.countP_nil, isK_sn, e3]; simp
  · intro l hl
    simp only [headLs, List.mem_cons, List.mem_append, List.mem_map, List.not_mem_nil, or_false] at hl
    rcases hl with rfl | ⟨d, hd, rfl⟩ | rfl
    · unfold kindL nameLn; rw [if_pos e1]; decide
    · unfold kindL devLn; rw [if_neg (by rw [isK_nd]; simp), if_pos (isK_app devP d (nameB_ne (h5 d hd)))]; decide
    · unfold kindL sizeLn; rw [if_neg (by rw [isK_ns]; simp), if_neg (by rw [isK_ds]; simp), if_pos e3]; decide
theorem nodup_head {h : Hr} (ho : okH h = true) (hn : h.ds.Nodup) : (headLs h).Nodup := by
  have hp1 : ∀ (d : List UInt8), nameLn h.nm ≠ devLn d := by
    intro d e
    have := congrArg (fun l => l.headD 0) e
    simp [nameLn, devLn, nameP, devP] at this
  have hp2 : ∀ n : Int, nameLn h.nm ≠ sizeLn n := by
    intro d e
    have := congrArg (fun l => l.headD 0) e
    simp [nameLn, sizeLn, nameP, sizeP] at this
  have hp3 : ∀ (d : List UInt8) (n : Int), devLn d ≠ sizeLn n := by
    intro d n e
    have := congrArg (fun l => l.headD 0) e
    simp [devLn, sizeLn, devP, sizeP] at this
  unfold headLs
  rw [List.nodup_cons, List.nodup_append]
  refine ⟨?_, ?_, by simp, ?_⟩
  · simp only [List.mem_append, List.mem_map, List.mem_singleton, not_or, not_exists, not_and]
    exact ⟨fun d _ e => hp1 d e.symm, hp2 _⟩
  · rw [List.Nodup, List.pairwise_map]
    exact List.Pairwise.imp (fun h e => h (devLn_inj e)) hn
  · intro a ha b hb
    obtain ⟨d, _, rfl⟩ := List.mem_map.1 ha
    rw [List.mem_singleton.1 hb]
    exact hp3 d _
/-- what a header's own text says, to either reader -/
theorem canon {h : Hr} {s : List UInt8} (hp : printF h = (s, 0)) : linesG s = headLs h ∧ ends10 s = true ∧ readP s = h ∧ readR s = h ∧ whyF s = 210 := by
  obtain ⟨ho, hn, hne, rfl⟩ := printF_some hp
  have hl : linesG (headT h) = headLs h := linesG_laid _ (headLs_10 ho)
  obtain ⟨h1, h2, h3, h4, h5⟩ := okH_parts ho
  have he : ends10 (headT h) = true := laidL_ends _ (by simp [headLs])
  have hds : ∀ d ∈ h.ds, d ≠ [] := fun d hd => nameB_ne (h5 d hd)
  have hk := kinds_head ho
  refine ⟨hl, he, ?_, ?_, ?_⟩
  · unfold readP
    rw [hl]; unfold headLs
    rw [List.foldl_cons, takeP_name _ _ (nameB_ne h1), List.foldl_append, devsP _ _ hds (by simp [zeroR]; omega), List.foldl_cons, List.foldl_nil, takeP_size _ _ (by omega) h3]
    simp [zeroR]
  · unfold readR
    rw [hl]; unfold headLs
    rw [List.foldl_cons, takeR_name _ _ (nameB_ne h1), List.foldl_append, devsR _ _ hds, List.foldl_cons, List.foldl_nil, takeR_size _ _ (by omega) h3]
    simp [zeroR]
  · unfold whyF
    rw [hl, he]
    have ha : (headLs h).all (fun l => kindL l != []) = true := by
      rw [List.all_eq_true]; intro l hl'; simpa using hk.2.2.2 l hl'
    have hd0 : h.ds.length ≠ 0 := by simpa using hne
    have ht : twiceB (headLs h) = false := by
      unfold twiceB
      rw [hk.1, hk.2.2.1]
      simp [nodup_head ho hn]
    rw [if_neg (by simp), ha, if_neg (by simp), if_neg (by rw [hk.1, hk.2.1, hk.2.2.1]; omega), ht]
    rfl
theorem whyF_ne (s : List UInt8) : whyF s ≠ 0 := by
  unfold whyF
  split
  · decide
  · split
    · decide
    · split
      · decide
      · split <;> decide
/-- the two readers are one -/
theorem parse_same (s : List UInt8) : parseR s = parseF s := by
  unfold parseF
  split
  · rename_i hp
    obtain ⟨g1, g2, g3, g4, g5⟩ := canon hp
    have hk := kinds_head (printF_some hp).1
    unfold parseR
    have ha : (linesG s).all (fun l => kindL l != []) = true := by
      rw [g1, List.all_eq_true]; intro l hl'; simpa using hk.2.2.2 l hl'
    rw [g5, g2, ha, if_neg (by simp), g4]
    rw [if_pos hp]
  · rename_i hp
    unfold parseR
    split
    · rfl
    · rename_i hc
      simp only [not_or, Bool.not_eq_false] at hc
      obtain ⟨c1, c2, c3, c4⟩ := hc
      split
      · rename_i hr
        obtain ⟨g1, g2, g3, g4, g5⟩ := canon hr
        exact absurd (by rw [g3]; exact hr) hp
      · congr 1
        unfold whyF at c1 c2 ⊢
        rw [if_neg (by simpa using c3), if_neg (by simpa using c4)] at c1 c2 ⊢
        split at c1
        · exact absurd rfl c1
        · rename_i g1
          rw [if_neg g1] at c2 ⊢
          split at c2
          · exact absurd rfl c2
          · rename_i g2; rw [if_neg g2]
theorem parse_print {h : Hr} {t : List UInt8} (hp : printF h = (t, 0)) : parseF t = (h, 0) := by
  obtain ⟨_, _, g3, _, _⟩ := canon hp
  unfold parseF
  rw [g3, if_pos hp]
theorem print_parse {s : List UInt8} {h : Hr} (hp : parseF s = (h, 0)) : printF h = (s, 0) := by
  unfold parseF at hp
  split at hp
  · rename_i g; cases hp; exact g
  · exact absurd (congrArg Prod.snd hp) (whyF_ne s)
theorem parse_err {s : List UInt8} (hp : (parseF s).2 ≠ 0) : (parseF s).1 = zeroR := by
  unfold parseF at hp ⊢
  split at hp
  · exact absurd rfl hp
  · rename_i g; rw [if_neg g]
theorem parse_cut {h : Hr} {t : List UInt8} (hp : printF h = (t, 0)) (k : Nat) (hk : k < t.length) : (parseF (t.take k)).2 ≠ 0 := by
  intro he
  have hq : parseF (t.take k) = ((parseF (t.take k)).1, 0) := by rw [← he]
  have hq := print_parse hq
  obtain ⟨g1, g2, _⟩ := canon hp
  obtain ⟨f1, f2, _⟩ := canon hq
  have k1 := (kinds_head (printF_some hp).1).2.2.1
  have k2 := (kinds_head (printF_some hq).1).2.2.1
  have e : linesG t = linesG (t.take k) ++ linesG (t.drop k) := by rw [← linesG_append _ _ (.inr f2), List.take_append_drop]
  rw [g1, f1] at e
  have hd : linesG (t.drop k) ≠ [] := linesG_ne (by intro e0; have := congrArg List.length e0; simp at this; omega)
  have hc := congrArg (List.countP (isK sizeP)) e
  rw [List.countP_append] at hc
  unfold kindN at k1 k2
  rw [k1, k2] at hc
  have h0 : (linesG (t.drop k)).countP (isK sizeP) = 0 := by omega
  have hlast := congrArg List.getLast? e
  rw [List.getLast?_append] at hlast
  have hl1 : (headLs h).getLast? = some (sizeLn h.sz) := by
    unfold headLs
    rw [← List.cons_append, List.getLast?_append]; simp
  rw [hl1] at hlast
  have hm : sizeLn h.sz ∈ linesG (t.drop k) := by
    cases hg : (linesG (t.drop k)).getLast? with
    | none => exact absurd (List.getLast?_eq_none_iff.1 hg) hd
    | some z => rw [hg] at hlast; simp at hlast; subst hlast; exact List.mem_of_getLast? hg
  rw [List.countP_eq_zero] at h0
  exact h0 _ hm (isK_app sizeP _ (dec_ne _))
end WX
end Go.Proofs.YtgdioalhlmnhhaaDoor
