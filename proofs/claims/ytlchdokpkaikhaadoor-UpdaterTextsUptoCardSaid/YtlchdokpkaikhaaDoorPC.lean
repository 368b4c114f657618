/- Walks and lemmas on the program of this seat, used by its statements; each theorem bears its own conditions. -/
import Derived.Test.YtlchdokpkaikhaaDoorGen
import Derived.Lib.SplitLaws
namespace Go.Proofs.YtlchdokpkaikhaaDoor
open Go.RowKit
set_option linter.unusedVariables false
set_option linter.unusedSimpArgs false
namespace WX
open Go.Lib
/-! ### A text, cut at a byte -/
/-- a text, cut at each byte c -/
def pieces (c : UInt8) : List UInt8 → List (List UInt8)
  | [] => [[]]
  | b :: l => if b = c then [] :: pieces c l else match pieces c l with | p :: ps => (b :: p) :: ps | [] => [[b]]
theorem pieces_ne (c : UInt8) (l : List UInt8) : pieces c l ≠ [] := by
  cases l with
  | nil => simp [pieces]
  | cons b l => unfold pieces; split; simp; split <;> simp
theorem index_ne (b c : UInt8) (l : List UInt8) (h : b ≠ c) : index (b :: l) [c] = if index l [c] == -1 then -1 else index l [c] + 1 := by
  have hp : ([c] : List UInt8).isPrefixOf (b :: l) = false := by simp [List.isPrefixOf, Ne.symm h]
  rw [index, hp]; simp
theorem splitK_pieces (c : UInt8) (l : List UInt8) : splitK [c] 0 (count l [c]) l = pieces c l := by
  induction l with
  | nil => rw [count_miss (by simp [index])]; rfl
  | cons b l ih =>
    by_cases h : b = c
    · subst h
      rw [count_cons_eq, Nat.add_comm]
      have hix : index (b :: l) [b] = 0 := by rw [index]; simp [List.isPrefixOf]
      unfold splitK pieces
      rw [hix, if_neg (by decide), if_pos rfl]
      simp [ih]
    · rw [count_cons_ne b c l h]
      unfold pieces
      rw [if_neg h, ← ih]
      cases hk : count l [c] with
      | zero => rfl
      | succ k =>
        have hm : ¬ (index l [c] == -1) = true := fun e => by
          have := count_miss (beq_iff_eq.1 e); omega
        have hge := index_ge l [c]
        have hne : index l [c] ≠ -1 := fun e => hm (beq_iff_eq.2 e)
        obtain ⟨i, hi⟩ : ∃ i : Nat, index l [c] = i := ⟨(index l [c]).toNat, by omega⟩
        have hix := index_ne b c l h
        rw [if_neg hm, hi] at hix
        simp only [splitK]
        rw [if_neg hm, hix, hi, if_neg (by simp; omega)]
        have e1 : ((i : Int) + 1).toNat = i + 1 := by omega
        rw [e1]
        simp
theorem pieces_join (c : UInt8) (l : List UInt8) : [c].intercalate (pieces c l) = l := by
  induction l with
  | nil => rfl
  | cons b l ih =>
    unfold pieces
    by_cases h : b = c
    · subst h
      rw [if_pos rfl]
      cases hp : pieces b l with
      | nil => exact absurd hp (pieces_ne b l)
      | cons p ps => rw [hp] at ih; simp [List.intercalate, List.intersperse] at ih ⊢; exact ih
    · rw [if_neg h]
      cases hp : pieces c l with
      | nil => exact absurd hp (pieces_ne c l)
      | cons p ps =>
        rw [hp] at ih
        cases ps with
        | nil => simp [List.intercalate, List.intersperse] at ih ⊢; exact ih
        | cons q qs => simp [List.intercalate, List.intersperse] at ih ⊢; exact ih
theorem pieces_clean (c : UInt8) (a l : List UInt8) (h : ∀ x ∈ a, x ≠ c) : pieces c (a ++ l) = match pieces c l with | p :: ps => (a ++ p) :: ps | [] => [a] := by
  induction a with
  | nil => cases hp : pieces c l with
    | nil => exact absurd hp (pieces_ne c l)
    | cons p ps => simp [hp]
  | cons b a ih =>
    rw [List.cons_append]
    conv => lhs; unfold pieces
    rw [if_neg (h b (by simp)), ih fun x hx => h x (by simp [hx])]
    cases hp : pieces c l with
    | nil => exact absurd hp (pieces_ne c l)
    | cons p ps => simp
theorem pieces_of_join (c : UInt8) : ∀ (ns : List (List UInt8)), ns ≠ [] → (∀ n ∈ ns, ∀ x ∈ n, x ≠ c) → pieces c ([c].intercalate ns) = ns
  | [], h, _ => absurd rfl h
  | [n], _, h => by
    have := pieces_clean c n [] (h n (by simp))
    simp [List.intercalate, List.intersperse] at this ⊢
    rw [this]; simp [pieces]
  | n :: m :: r, _, h => by
    have ih := pieces_of_join c (m :: r) (by simp) fun x hx => h x (by simp [hx])
    have e : [c].intercalate (n :: m :: r) = n ++ (c :: [c].intercalate (m :: r)) := by simp [List.intercalate, List.intersperse]
    rw [e, pieces_clean c n _ (h n (by simp))]
    have : pieces c (c :: [c].intercalate (m :: r)) = [] :: pieces c ([c].intercalate (m :: r)) := by conv => lhs; unfold pieces
                                                                                                      rw [if_pos rfl]
    rw [this, ih]; simp
end WX
end Go.Proofs.YtlchdokpkaikhaaDoor
