/- Walks and lemmas on the program of this seat, used by its statements; each theorem bears its own conditions. -/
import Derived.Test.YtgdioalhlmnhhaaDoorPureA
namespace Go.Proofs.YtgdioalhlmnhhaaDoor
open Go.RowKit
set_option linter.unusedVariables false
set_option linter.unusedSimpArgs false
namespace WX
open Go.Lib
set_option maxRecDepth 100000
theorem validGoD_text (f : Nat) : ∀ l : List UInt8, l.length ≤ f → validGoD f l = textB l := by
  induction f with
  | zero => intro l h; rw [List.eq_nil_of_length_eq_zero (show l.length = 0 by omega)]; rfl
  | succ f ih =>
    intro l h
    unfold validGoD
    by_cases he : l = []
    · subst he; rfl
    · have hw := dec_width l he
      rw [if_neg he, decodeL_dec, textB_cons l he]
      unfold isOk
      by_cases hc : (dec l).1 = 65533 ∧ (dec l).2 = 1
      · rw [if_pos hc, hc.1, hc.2]; rfl
      · rw [if_neg hc, ih _ (by rw [List.length_drop]; omega)]
        have : ((dec l).1 == 65533 && (dec l).2 == 1) = false := by
          cases hx : ((dec l).1 == 65533 && (dec l).2 == 1) with
          | false => rfl
          | true => exfalso; simp at hx; exact hc hx
        rw [this]; rfl
theorem validD_text (l : List UInt8) : validD l = textB l := validGoD_text _ l (Nat.le_refl _)
theorem units_all (l : List UInt8) (h : l ≠ []) (p : Option Nat × List UInt8 → Bool) : (units l).all p = (p (unit1 l) && (units (l.drop (dec l).2)).all p) := by rw [units_cons l h, List.all_cons]
/-- a byte that is no plain character -/
def escB (c : UInt8) : List UInt8 := if c.toNat = 92 then [92, 92] else if c.toNat = 10 then [92, 110] else hex2 c
theorem cont_bad (b : UInt8) (t : List UInt8) (h : b.toNat / 64 = 2) : dec (b :: t) = (65533, 1) := by
  rcases dec_cases (b :: t) (by simp) with ⟨a, t', e0, h1, e⟩ | ⟨a, c, t', e0, h1, h2, h3, e⟩ | ⟨a, c, d, t', e0, h1, h2, h3, h4, h5, e⟩ | ⟨a, c, d, d', t', e0, h1, h2, h3, h4, h5, h6, e⟩ | ⟨e, _⟩
  · injection e0 with e1 _; subst e1; omega
  · injection e0 with e1 _; subst e1; omega
  · injection e0 with e1 _; subst e1; omega
  · injection e0 with e1 _; subst e1; omega
  · exact e
theorem escL_bad (c : UInt8) (t : List UInt8) (h : isOk (c :: t) = false) : escL (c :: t) = hex2 c ++ escL t := by
  rcases dec_cases (c :: t) (by simp) with ⟨a, t', e0, h1, e⟩ | ⟨a, b, t', e0, h1, h2, h3, e⟩ | ⟨a, b, d, t', e0, h1, h2, h3, h4, h5, e⟩ | ⟨a, b, d, d', t', e0, h1, h2, h3, h4, h5, h6, e⟩ | ⟨e, h1, _⟩
  · rw [isOk_of e (by omega)] at h; cases h
  · rw [isOk_of e (by omega)] at h; cases h
  · rw [isOk_of e (by omega)] at h; cases h
  · rw [isOk_of e (by omega)] at h; cases h
  · rw [escL_cons _ (by simp)]
    unfold unit1
    rw [h, e]
    simp [escU]
/-- At a byte where no plain character stands the escape goes on by one byte. -/
theorem escL_byte (c : UInt8) (t : List UInt8) (h : ¬ (isOk (c :: t) = true ∧ plainN (dec (c :: t)).1 = true)) : escL (c :: t) = escB c ++ escL t := by
  by_cases ho : isOk (c :: t) = true
  · have hp : ¬ plainN (dec (c :: t)).1 = true := fun hp => h ⟨ho, hp⟩
    rcases dec_cases (c :: t) (by simp) with ⟨a, t', e0, h1, e⟩ | ⟨a, b, t', e0, h1, h2, h3, e⟩ | ⟨a, b, d, t', e0, h1, h2, h3, h4, h5, e⟩ | ⟨a, b, d, d', t', e0, h1, h2, h3, h4, h5, h6, e⟩ | ⟨e, h1, _⟩
    · rw [escL_cons _ (by simp)]
      injection e0 with e1 e2
      subst e1
      unfold unit1
      rw [ho, e]
      rw [e] at hp
      simp only [escU, if_true, List.drop_succ_cons, List.drop_zero, List.take_succ_cons, List.take_zero]
      unfold escB
      split
      · rfl
      split
      · rfl
      simp
    · injection e0 with e1 e2
      subst e1
      subst e2
      have hb : isOk (b :: t') = false := not_ok (cont_bad b t' h3)
      rw [escL_bad b t' hb, escL_cons _ (by simp)]
      unfold unit1
      rw [ho, e]
      rw [e] at hp
      simp only [plainN, decide_eq_true_eq] at hp
      have hp2 : ¬ plainN (c.toNat % 32 * 64 + b.toNat % 64) = true := by simp only [plainN, decide_eq_true_eq]; exact hp
      simp only [escU, if_true, List.drop_succ_cons, List.drop_zero, List.take_succ_cons, List.take_zero]
      rw [if_neg (by omega), if_neg (by omega), if_neg hp2]
      unfold escB
      rw [if_neg (by omega), if_neg (by omega)]
      simp
    · exfalso; rw [e] at hp; simp only [plainN, decide_eq_true_eq] at hp; omega
    · exfalso; rw [e] at hp; simp only [plainN, decide_eq_true_eq] at hp; omega
    · rw [not_ok e] at ho; cases ho
  · have ho' : isOk (c :: t) = false := by simpa using ho
    rw [escL_bad c t ho']
    rcases dec_cases (c :: t) (by simp) with ⟨a, t', e0, h1, e⟩ | ⟨a, b, t', e0, h1, h2, h3, e⟩ | ⟨a, b, d, t', e0, h1, h2, h3, h4, h5, e⟩ | ⟨a, b, d, d', t', e0, h1, h2, h3, h4, h5, h6, e⟩ | ⟨e, h1, _⟩
    · exact absurd (isOk_of e (by omega)) ho
    · exact absurd (isOk_of e (by omega)) ho
    · exact absurd (isOk_of e (by omega)) ho
    · exact absurd (isOk_of e (by omega)) ho
    · rw [at8_0] at h1
      unfold escB
      rw [if_neg (by omega), if_neg (by omega)]
theorem escL_plain (l : List UInt8) (h : l ≠ []) (ho : isOk l = true) (hp : plainN (dec l).1 = true) : escL l = l.take (dec l).2 ++ escL (l.drop (dec l).2) := by
  rw [escL_cons l h]
  unfold unit1
  rw [ho]
  simp only [escU, if_true]
  have hp2 := hp
  simp only [plainN, decide_eq_true_eq] at hp2
  rw [if_neg (by omega), if_neg (by omega), if_pos hp]
theorem escU_len (u : Option Nat × List UInt8) (h : unitOk u) : (escU u).length ≤ 4 * u.2.length := by
  obtain ⟨o, s⟩ := u
  have hx : ∀ s : List UInt8, (s.flatMap hex2).length = 4 * s.length := by
    intro s; induction s with
    | nil => rfl
    | cons c s ih => rw [List.flatMap_cons, List.length_append, ih]; simp [hex2]; omega
  cases o with
  | none => simp only [escU, hx]; omega
  | some r =>
    have hs : 1 ≤ s.length := by
      rcases h with ⟨c, _, _, rfl⟩ | ⟨_, h2, _⟩
      · simp
      · exact List.length_pos_iff.2 h2
    simp only [escU]
    split
    · simp; omega
    split
    · simp; omega
    split
    · omega
    · rw [hx]; omega
theorem escL_len (l : List UInt8) : (escL l).length ≤ 4 * l.length := by
  induction l using units_rec with
  | h0 => simp [escL_nil]
  | hs l h ih =>
    have hw := dec_width l h
    have h1 := escU_len (unit1 l) (unit1_ok l h)
    rw [escL_cons l h, List.length_append]
    rw [List.length_drop] at ih
    have : (unit1 l).2.length = (dec l).2 := by unfold unit1; simp; omega
    omega
theorem sayF_len (f : Nat) : ∀ (l t : List UInt8), sayF f l = some t → t.length ≤ l.length := by
  induction f with
  | zero => intro l t h; cases h; simp
  | succ f ih =>
    intro l t h
    cases l with
    | nil => cases h; simp
    | cons c s =>
      unfold sayF at h
      have go : ∀ (u : List UInt8) (d : UInt8), (sayF f u).map (d :: ·) = some t → t.length ≤ u.length + 1 := by
        intro u d h
        cases hu : sayF f u with
        | none => rw [hu] at h; cases h
        | some x => rw [hu] at h; cases h; have := ih u x hu; simp; omega
      split at h
      · exact go _ _ h
      split at h
      · have := go _ _ h; simp; omega
      · have := go _ _ h; simp; omega
      · split at h
        · have := go _ _ h; simp; omega
        · cases h
      · cases h
theorem say_len {l t : List UInt8} (h : say l = some t) : t.length ≤ l.length := sayF_len _ l t h
end WX
end Go.Proofs.YtgdioalhlmnhhaaDoor
