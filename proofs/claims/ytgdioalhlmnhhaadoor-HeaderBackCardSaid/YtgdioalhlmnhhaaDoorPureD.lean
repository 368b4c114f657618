/- Walks and lemmas on the program of this seat, used by its statements; each theorem bears its own conditions. -/
import Derived.Test.YtgdioalhlmnhhaaDoorPureC
import Derived.Lib.SplitLaws
namespace Go.Proofs.YtgdioalhlmnhhaaDoor
open Go.RowKit
set_option linter.unusedVariables false
set_option linter.unusedSimpArgs false
namespace WX
open Go.Lib
/-! ### Paths -/
/-- a text, cut at each byte c -/
def pieces (c : UInt8) : List UInt8 → List (List UInt8)
  | [] => [[]]
  | b :: l => if b = c then [] :: pieces c l else match pieces c l with | p :: ps => (b :: p) :: ps | [] => [[b]]
theorem pieces_ne (c : UInt8) (l : List UInt8) : pieces c l ≠ [] := by
  cases l with
  | nil => simp [pieces]
  | cons b l => unfold pieces; split; simp; split <;> simp
theorem index_ne (b c : UInt8) (l : List UInt8) (h : b ≠ c) : index (b :: l) [c] = if index l [c] == -1 then -1 else index l [c] + 1 := by
  have hp : ([c] : List UInt8).isPrefixOf (b :: l) = false := by simp [List.isPrefixOf, Ne.symm h]
  rw [index, hp]; simp
theorem splitK_pieces (c : UInt8) (l : List UInt8) : splitK [c] 0 (count l [c]) l = pieces c l := by
  induction l with
  | nil => rw [count_miss (by simp [index])]; rfl
  | cons b l ih =>
    by_cases h : b = c
    · subst h
      rw [count_cons_eq, Nat.add_comm]
      have hix : index (b :: l) [b] = 0 := by rw [index]; simp [List.isPrefixOf]
      unfold splitK pieces
      rw [hix, if_neg (by decide), if_pos rfl]
      simp [ih]
    · rw [count_cons_ne b c l h]
      unfold pieces
      rw [if_neg h, ← ih]
      cases hk : count l [c] with
      | zero => rfl
      | succ k =>
        have hm : ¬ (index l [c] == -1) = true := fun e => by
          have := count_miss (beq_iff_eq.1 e); omega
        have hge := index_ge l [c]
        have hne : index l [c] ≠ -1 := fun e => hm (beq_iff_eq.2 e)
        obtain ⟨i, hi⟩ : ∃ i : Nat, index l [c] = i := ⟨(index l [c]).toNat, by omega⟩
        have hix := index_ne b c l h
        rw [if_neg hm, hi] at hix
        simp only [splitK]
        rw [if_neg hm, hix, hi, if_neg (by simp; omega)]
        have e1 : ((i : Int) + 1).toNat = i + 1 := by omega
        rw [e1]
        simp
theorem pieces_join (c : UInt8) (l : List UInt8) : [c].intercalate (pieces c l) = l := by
  induction l with
  | nil => rfl
  | cons b l ih =>
    unfold pieces
    by_cases h : b = c
    · subst h
      rw [if_pos rfl]
      cases hp : pieces b l with
      | nil => exact absurd hp (pieces_ne b l)
      | cons p ps => rw [hp] at ih; simp [List.intercalate, List.intersperse] at ih ⊢; exact ih
    · rw [if_neg h]
      cases hp : pieces c l with
      | nil => exact absurd hp (pieces_ne c l)
      | cons p ps =>
        rw [hp] at ih
        cases ps with
        | nil => simp [List.intercalate, List.intersperse] at ih ⊢; exact ih
        | cons q qs => simp [List.intercalate, List.intersperse] at ih ⊢; exact ih
theorem pieces_clean (c : UInt8) (a l : List UInt8) (h : ∀ x ∈ a, x ≠ c) : pieces c (a ++ l) = match pieces c l with | p :: ps => (a ++ p) :: ps | [] => [a] := by
  induction a with
  | nil => cases hp : pieces c l with
    | nil => exact absurd hp (pieces_ne c l)
    | cons p ps => simp [hp]
  | cons b a ih =>
    rw [List.cons_append]
    conv => lhs; unfold pieces
    rw [if_neg (h b (by simp)), ih fun x hx => h x (by simp [hx])]
    cases hp : pieces c l with
    | nil => exact absurd hp (pieces_ne c l)
    | cons p ps => simp
theorem pieces_of_join (c : UInt8) : ∀ (ns : List (List UInt8)), ns ≠ [] → (∀ n ∈ ns, ∀ x ∈ n, x ≠ c) → pieces c ([c].intercalate ns) = ns
  | [], h, _ => absurd rfl h
  | [n], _, h => by
    have := pieces_clean c n [] (h n (by simp))
    simp [List.intercalate, List.intersperse] at this ⊢
    rw [this]; simp [pieces]
  | n :: m :: r, _, h => by
    have ih := pieces_of_join c (m :: r) (by simp) fun x hx => h x (by simp [hx])
    have e : [c].intercalate (n :: m :: r) = n ++ (c :: [c].intercalate (m :: r)) := by simp [List.intercalate, List.intersperse]
    rw [e, pieces_clean c n _ (h n (by simp))]
    have : pieces c (c :: [c].intercalate (m :: r)) = [] :: pieces c ([c].intercalate (m :: r)) := by conv => lhs; unfold pieces
                                                                                                      rw [if_pos rfl]
    rw [this, ih]; simp
def pathF (l : List UInt8) : Option (List (List UInt8)) :=
  if l = [47] then some [] else if l.head? = some 47 ∧ (pieces 47 (l.drop 1)).length ≤ 8 ∧ (pieces 47 (l.drop 1)).all nameB = true then some (pieces 47 (l.drop 1)) else none
def joinF (ns : List (List UInt8)) : List UInt8 × Int := if ns.length ≤ 8 ∧ ns.all nameB = true then (47 :: [47].intercalate ns, 0) else ([], 10)
theorem nameB_nil : nameB [] = false := by decide
theorem name_no47 {ns : List (List UInt8)} (h : ns.all nameB = true) : ∀ n ∈ ns, ∀ x ∈ n, x ≠ 47 := by
  intro n hn x hx e
  have := (nameB_bytes (List.all_eq_true.1 h n hn) x hx).2.1
  subst e; exact this rfl
theorem path_join {ns : List (List UInt8)} (h : (joinF ns).2 = 0) : pathF (joinF ns).1 = some ns := by
  unfold joinF at h ⊢
  split at h
  · rename_i hc
    rw [if_pos hc]
    simp only
    cases ns with
    | nil => rfl
    | cons n r =>
      have hp := pieces_of_join 47 (n :: r) (by simp) (name_no47 hc.2)
      unfold pathF
      have hne : ¬ (47 :: [47].intercalate (n :: r)) = [47] := by
        intro e
        have e2 : [47].intercalate (n :: r) = [] := by injection e
        rw [e2] at hp
        simp [pieces] at hp
        have := hc.2
        rw [hp.1] at this
        simp [nameB_nil] at this
      rw [if_neg hne]
      simp only [List.drop_succ_cons, List.drop_zero, List.head?_cons, hp]
      rw [if_pos ⟨trivial, hc⟩]
  · simp at h
theorem join_path {l : List UInt8} {ns : List (List UInt8)} (h : pathF l = some ns) : joinF ns = (l, 0) := by
  unfold pathF at h
  split at h
  · rename_i hl; cases h; subst hl; rfl
  split at h
  · rename_i hc
    cases h
    unfold joinF
    rw [if_pos hc.2, pieces_join]
    match l, hc.1 with
    | c :: t, hh => simp at hh; subst hh; rfl
  · cases h
theorem path_names {l : List UInt8} {ns : List (List UInt8)} (h : pathF l = some ns) : ns.length ≤ 8 ∧ ns.all nameB = true := by
  unfold pathF at h
  split at h
  · cases h; simp
  split at h
  · rename_i hc; cases h; exact hc.2
  · cases h
theorem inter_len (ns : List (List UInt8)) (h : ∀ n ∈ ns, n.length ≤ 24) : ([47].intercalate ns).length ≤ 25 * ns.length := by
  induction ns with
  | nil => simp [List.intercalate, List.intersperse]
  | cons n r ih =>
    cases r with
    | nil => have := h n (by simp); simp [List.intercalate, List.intersperse]; omega
    | cons m r =>
      have e : [47].intercalate (n :: m :: r) = n ++ (47 :: [47].intercalate (m :: r)) := by simp [List.intercalate, List.intersperse]
      have h1 := ih fun x hx => h x (by simp [hx])
      have h2 := h n (by simp)
      rw [e]
      simp only [List.length_append, List.length_cons] at h1 ⊢
      omega
theorem name_len {n : List UInt8} (h : nameB n = true) : n.length ≤ 24 := by
  unfold nameB at h; simp only [Bool.and_eq_true, decide_eq_true_eq] at h; exact h.1.1.1.2
end WX
end Go.Proofs.YtgdioalhlmnhhaaDoor
