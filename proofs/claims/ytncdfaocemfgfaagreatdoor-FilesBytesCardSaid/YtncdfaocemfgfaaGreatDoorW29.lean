/- Walks and lemmas on the program of this seat, used by its statements; each theorem bears its own conditions. -/
import Derived.Lib.DecodeNEq
import Derived.Lib.TrimU
import Derived.Lib.ValidU
import Derived.Lib.RuneBytes
import Derived.Lib.SplitLaws
namespace Go.Proofs.YtncdfaocemfgfaaGreatDoor
open Go.RowKit
set_option linter.unusedVariables false
set_option linter.unusedSimpArgs false
set_option linter.unusedSectionVars false
section
open Go.RowKit
set_option linter.unusedVariables false
set_option linter.unusedSimpArgs false
namespace WX
open Go.Lib
set_option maxRecDepth 100000
set_option linter.unusedVariables false
set_option linter.unusedSimpArgs false
def at8 (l : List UInt8) (i : Nat) : Nat := (l.getD i 0).toNat
def dec (l : List UInt8) : Nat × Nat := decodeN l.length (at8 l 0) (at8 l 1) (at8 l 2) (at8 l 3)
theorem get_bang (s : ByteArray) (i : Nat) : s.get! i = s.data.toList.getD i 0 := by
  show s.data[i]! = _
  rw [getElem!_def, List.getD_eq_getElem?_getD, Array.getElem?_toList]
  cases s.data[i]? <;> rfl
theorem at8_drop (l : List UInt8) (p i : Nat) : at8 (l.drop p) i = at8 l (p + i) := by
  unfold at8; simp [List.getD_eq_getElem?_getD]
theorem decode_dec (s : ByteArray) (p : Nat) : Utf8.decode s p = dec (s.data.toList.drop p) := by
  rw [decode_at]
  unfold dec
  simp only [at8_drop, get_bang, Nat.add_zero, List.length_drop, Array.length_toList]
  rfl
theorem decodeL_dec (l : List UInt8) : decodeL l = dec l := by
  unfold decodeL; rw [decode_dec]; rfl
/-- valid -/
def isOk (l : List UInt8) : Bool := !((dec l).1 == 65533 && (dec l).2 == 1)
theorem dec_width (l : List UInt8) (h : l ≠ []) : 1 ≤ (dec l).2 ∧ (dec l).2 ≤ 4 ∧ (dec l).2 ≤ l.length := by
  have hl := List.length_pos_iff.2 h
  unfold dec decodeN
  repeat' split
  all_goals (simp only; omega)
/-- what stands at the head: a character, or a byte that is none; its bytes -/
def unit1 (l : List UInt8) : Option Nat × List UInt8 := (if isOk l then some (dec l).1 else none, l.take (dec l).2)
def unitsF : Nat → List UInt8 → List (Option Nat × List UInt8)
  | 0, _ => []
  | f + 1, l => if l.isEmpty then [] else unit1 l :: unitsF f (l.drop (dec l).2)
def units (l : List UInt8) : List (Option Nat × List UInt8) := unitsF l.length l
theorem unitsF_more (f : Nat) : ∀ (l : List UInt8) (g : Nat), l.length ≤ f → l.length ≤ g → unitsF f l = unitsF g l := by
  induction f with
  | zero =>
    intro l g h _
    have : l = [] := List.eq_nil_of_length_eq_zero (by omega)
    subst this
    cases g <;> simp [unitsF]
  | succ f ih =>
    intro l g h hg
    by_cases he : l = []
    · subst he; cases g <;> simp [unitsF]
    · have hw := dec_width l he
      have hl := List.length_pos_iff.2 he
      obtain ⟨g, rfl⟩ : ∃ k, g = k + 1 := ⟨g - 1, by omega⟩
      simp only [unitsF]
      rw [ih (l.drop (dec l).2) g (by simp; omega) (by simp; omega)]
theorem units_cons (l : List UInt8) (h : l ≠ []) : units l = unit1 l :: units (l.drop (dec l).2) := by
  have hw := dec_width l h
  have hl := List.length_pos_iff.2 h
  unfold units
  obtain ⟨f, hf⟩ : ∃ k, l.length = k + 1 := ⟨l.length - 1, by omega⟩
  rw [hf, unitsF]
  have he : l.isEmpty = false := by cases l; exact absurd rfl h; rfl
  rw [he]
  simp only [Bool.false_eq_true, if_false]
  rw [unitsF_more f _ (l.drop (dec l).2).length (by simp; omega) (Nat.le_refl _)]
def textB (l : List UInt8) : Bool := (units l).all (·.1.isSome)
theorem textB_cons (l : List UInt8) (h : l ≠ []) : textB l = (isOk l && textB (l.drop (dec l).2)) := by
  unfold textB; rw [units_cons l h, List.all_cons]; unfold unit1; cases isOk l <;> rfl
def plainN (r : Nat) : Bool := decide ((32 ≤ r ∧ r < 127 ∧ r ≠ 92) ∨ 160 ≤ r)
def nameU (u : Option Nat × List UInt8) : Bool := match u.1 with | some r => plainN r && r != 47 | none => false
def nameB (l : List UInt8) : Bool := !l.isEmpty && decide (l.length ≤ 24) && l != [46] && l != [46, 46] && (units l).all nameU
theorem nameB_text {l : List UInt8} (h : nameB l = true) : textB l = true := by
  unfold nameB at h
  simp only [Bool.and_eq_true] at h
  unfold textB
  rw [List.all_eq_true] at *
  intro u hu
  have := h.2 u hu
  unfold nameU at this
  cases hx : u.1 with
  | none => rw [hx] at this; cases this
  | some r => rfl
end WX
end
section
open Go.RowKit
set_option linter.unusedVariables false
set_option linter.unusedSimpArgs false
namespace WX
open Go.Lib
set_option maxRecDepth 100000
theorem validGoD_text (f : Nat) : ∀ l : List UInt8, l.length ≤ f → validGoD f l = textB l := by
  induction f with
  | zero => intro l h; rw [List.eq_nil_of_length_eq_zero (show l.length = 0 by omega)]; rfl
  | succ f ih =>
    intro l h
    unfold validGoD
    by_cases he : l = []
    · subst he; rfl
    · have hw := dec_width l he
      rw [if_neg he, decodeL_dec, textB_cons l he]
      unfold isOk
      by_cases hc : (dec l).1 = 65533 ∧ (dec l).2 = 1
      · rw [if_pos hc, hc.1, hc.2]; rfl
      · rw [if_neg hc, ih _ (by rw [List.length_drop]; omega)]
        have : ((dec l).1 == 65533 && (dec l).2 == 1) = false := by
          cases hx : ((dec l).1 == 65533 && (dec l).2 == 1) with
          | false => rfl
          | true => exfalso; simp at hx; exact hc hx
        rw [this]; rfl
theorem validD_text (l : List UInt8) : validD l = textB l := validGoD_text _ l (Nat.le_refl _)
theorem units_all (l : List UInt8) (h : l ≠ []) (p : Option Nat × List UInt8 → Bool) : (units l).all p = (p (unit1 l) && (units (l.drop (dec l).2)).all p) := by rw [units_cons l h, List.all_cons]
end WX
end
section
open Go.RowKit
set_option linter.unusedVariables false
set_option linter.unusedSimpArgs false
namespace WX
open Go.Lib
end WX
end
section
open Go.RowKit
set_option linter.unusedVariables false
set_option linter.unusedSimpArgs false
namespace WX
open Go.Lib
/-- a text, cut at each byte c -/
def pieces (c : UInt8) : List UInt8 → List (List UInt8)
  | [] => [[]]
  | b :: l => if b = c then [] :: pieces c l else match pieces c l with | p :: ps => (b :: p) :: ps | [] => [[b]]
theorem pieces_ne (c : UInt8) (l : List UInt8) : pieces c l ≠ [] := by
  cases l with
  | nil => simp [pieces]
  | cons b l => unfold pieces; split; simp; split <;> simp
theorem index_ne (b c : UInt8) (l : List UInt8) (h : b ≠ c) : index (b :: l) [c] = if index l [c] == -1 then -1 else index l [c] + 1 := by
  have hp : ([c] : List UInt8).isPrefixOf (b :: l) = false := by simp [List.isPrefixOf, Ne.symm h]
  rw [index, hp]; simp
theorem splitK_pieces (c : UInt8) (l : List UInt8) : splitK [c] 0 (count l [c]) l = pieces c l := by
  induction l with
  | nil => rw [count_miss (by simp [index])]; rfl
  | cons b l ih =>
    by_cases h : b = c
    · subst h
      rw [count_cons_eq, Nat.add_comm]
      have hix : index (b :: l) [b] = 0 := by rw [index]; simp [List.isPrefixOf]
      unfold splitK pieces
      rw [hix, if_neg (by decide), if_pos rfl]
      simp [ih]
    · rw [count_cons_ne b c l h]
      unfold pieces
      rw [if_neg h, ← ih]
      cases hk : count l [c] with
      | zero => rfl
      | succ k =>
        have hm : ¬ (index l [c] == -1) = true := fun e => by
          have := count_miss (beq_iff_eq.1 e); omega
        have hge := index_ge l [c]
        have hne : index l [c] ≠ -1 := fun e => hm (beq_iff_eq.2 e)
        obtain ⟨i, hi⟩ : ∃ i : Nat, index l [c] = i := ⟨(index l [c]).toNat, by omega⟩
        have hix := index_ne b c l h
        rw [if_neg hm, hi] at hix
        simp only [splitK]
        rw [if_neg hm, hix, hi, if_neg (by simp; omega)]
        have e1 : ((i : Int) + 1).toNat = i + 1 := by omega
        rw [e1]
        simp
theorem pieces_join (c : UInt8) (l : List UInt8) : [c].intercalate (pieces c l) = l := by
  induction l with
  | nil => rfl
  | cons b l ih =>
    unfold pieces
    by_cases h : b = c
    · subst h
      rw [if_pos rfl]
      cases hp : pieces b l with
      | nil => exact absurd hp (pieces_ne b l)
      | cons p ps => rw [hp] at ih; simp [List.intercalate, List.intersperse] at ih ⊢; exact ih
    · rw [if_neg h]
      cases hp : pieces c l with
      | nil => exact absurd hp (pieces_ne c l)
      | cons p ps =>
        rw [hp] at ih
        cases ps with
        | nil => simp [List.intercalate, List.intersperse] at ih ⊢; exact ih
        | cons q qs => simp [List.intercalate, List.intersperse] at ih ⊢; exact ih
theorem pieces_clean (c : UInt8) (a l : List UInt8) (h : ∀ x ∈ a, x ≠ c) : pieces c (a ++ l) = match pieces c l with | p :: ps => (a ++ p) :: ps | [] => [a] := by
  induction a with
  | nil => cases hp : pieces c l with
    | nil => exact absurd hp (pieces_ne c l)
    | cons p ps => simp [hp]
  | cons b a ih =>
    rw [List.cons_append]
    conv => lhs; unfold pieces
    rw [if_neg (h b (by simp)), ih fun x hx => h x (by simp [hx])]
    cases hp : pieces c l with
    | nil => exact absurd hp (pieces_ne c l)
    | cons p ps => simp
def pathF (l : List UInt8) : Option (List (List UInt8)) :=
  if l = [47] then some [] else if l.head? = some 47 ∧ (pieces 47 (l.drop 1)).length ≤ 8 ∧ (pieces 47 (l.drop 1)).all nameB = true then some (pieces 47 (l.drop 1)) else none
def joinF (ns : List (List UInt8)) : List UInt8 × Int := if ns.length ≤ 8 ∧ ns.all nameB = true then (47 :: [47].intercalate ns, 0) else ([], 10)
theorem join_path {l : List UInt8} {ns : List (List UInt8)} (h : pathF l = some ns) : joinF ns = (l, 0) := by
  unfold pathF at h
  split at h
  · rename_i hl; cases h; subst hl; rfl
  split at h
  · rename_i hc
    cases h
    unfold joinF
    rw [if_pos hc.2, pieces_join]
    match l, hc.1 with
    | c :: t, hh => simp at hh; subst hh; rfl
  · cases h
theorem path_names {l : List UInt8} {ns : List (List UInt8)} (h : pathF l = some ns) : ns.length ≤ 8 ∧ ns.all nameB = true := by
  unfold pathF at h
  split at h
  · cases h; simp
  split at h
  · rename_i hc; cases h; exact hc.2
  · cases h
theorem name_len {n : List UInt8} (h : nameB n = true) : n.length ≤ 24 := by
  unfold nameB at h; simp only [Bool.and_eq_true, decide_eq_true_eq] at h; exact h.1.1.1.2
end WX
end
end Go.Proofs.YtncdfaocemfgfaaGreatDoor
