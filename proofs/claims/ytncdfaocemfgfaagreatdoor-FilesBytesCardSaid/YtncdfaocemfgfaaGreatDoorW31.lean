/- Walks and lemmas on the program of this seat, used by its statements; each theorem bears its own conditions. -/
import Derived.Test.YtncdfaocemfgfaaGreatDoorW30
import Derived.Test.YtncdfaocemfgfaaGreatDoorW8
import Derived.Handy
import Derived.OwnWalk
import Derived.Deep.AppendLies
import Derived.IntWalk
import Derived.Deep.CutRange
import Derived.Deep.RegionHeld3
import Derived.Deep.RegionLaw
namespace Go.Proofs.YtncdfaocemfgfaaGreatDoor
open Go.RowKit
set_option linter.unusedVariables false
set_option linter.unusedSimpArgs false
set_option linter.unusedSectionVars false
open Go.RowKit
set_option linter.unusedVariables false
set_option linter.unusedSimpArgs false
set_option maxHeartbeats 8000000
set_option maxRecDepth 100000
def enCells (l : List En) : List Value := l.flatMap fun x => [S x.1, I x.2]
theorem enCells_len (l : List En) : (enCells l).length = l.length * 2 := by
  induction l with
  | nil => rfl
  | cons s l ih => simp only [enCells, List.flatMap_cons, List.length_append, List.length_cons, List.length_nil] at ih ⊢; omega
/-- A slice that reads as the entries. -/
def EnsAt (w : World) (v : Value) (l : List En) : Prop := ∃ p c b, v = .slice p l.length c ∧ l.length ≤ c ∧ (l ≠ [] → p = some ⟨b, 0, none⟩) ∧
  ∀ (i : Nat) (hi : i < l.length), w.cell? ⟨b, i * 2, none⟩ = some (S l[i].1) ∧ w.cell? ⟨b, i * 2 + 1, none⟩ = some (I l[i].2)
theorem EnsAt.same {w w' : World} {v : Value} {l : List En} (h : EnsAt w v l) (k : Kept [] w w') : EnsAt w' v l := by
  obtain ⟨p, c, b, e, h0, h1, h2⟩ := h
  exact ⟨p, c, b, e, h0, h1, fun i hi => ⟨k.cellOf (h2 i hi).1, k.cellOf (h2 i hi).2⟩⟩
theorem EnsAt.nil (w : World) : EnsAt w (.slice none 0 0) [] := ⟨none, 0, 0, rfl, Nat.le_refl _, fun h => absurd rfl h, fun i hi => by simp at hi⟩
def cmpF (a b : Nm) : Int := if ltB a b then -1 else if ltB b a then 1 else 0
theorem cmpF_neg {a b : Nm} : cmpF a b < 0 ↔ ltB a b = true := by
  unfold cmpF
  split
  · next h => simp [h]
  · next h =>
    split
    · simp [h]
    · simp [h]
theorem cmpF_zero {a b : Nm} : cmpF a b = 0 ↔ a = b := by
  unfold cmpF
  constructor
  · intro h
    apply Decidable.byContradiction
    intro hne
    rcases ltB_total hne with h1 | h1
    · rw [if_pos h1] at h; cases h
    · rw [if_neg (by rw [ltB_asymm h1]; decide), if_pos h1] at h; cases h
  · rintro rfl
    rw [if_neg (by rw [ltB_irrefl]; decide), if_neg (by rw [ltB_irrefl]; decide)]
theorem isNaN_str (a : Nm) (w : World) : Calls Tryz.prog 134 #[S a] w fun e w' => e = .returned (.bool false) ∧ w' = w := by
  go_enter Tryz.func134, Tryz.ntmps134
  go_wp2_with (fail)
  go_ret
  exact ⟨by simp, rfl⟩
theorem compare_str (a b : Nm) (w : World) : Calls Tryz.prog 101 #[S a, S b] w fun e w' => e = .returned (I (cmpF a b)) ∧ w' = w := by
  have HN := Lib.hid (fun x => isNaN_str x w)
  go_enter Tryz.func101, Tryz.ntmps101
  go_wp2_with (fail)
  refine (HN.out a).mono ?_
  rintro e w1 ⟨rfl, rfl⟩
  go_wp2_with (fail)
  refine (HN.out b).mono ?_
  rintro e w2 ⟨rfl, rfl⟩
  go_wp2_with (fail)
  all_goals go_ret
  · exact ⟨ret_I (by unfold cmpF; rw [if_pos (by assumption)]), rfl⟩
  · have h1 : ltB a b = false := by assumption
    have h2 : (!a == b) = true := by assumption
    refine ⟨ret_I ?_, rfl⟩
    unfold cmpF
    rw [if_neg (by rw [h1]; decide)]
    rcases ltB_total (a := a) (b := b) (by simpa using h2) with h3 | h3
    · rw [h1] at h3; cases h3
    · rw [if_pos h3]
  · have h2 : (!a == b) = false := by assumption
    have e : a = b := by simpa using h2
    exact ⟨ret_I (cmpF_zero.2 e).symm, rfl⟩
def posE : List En → Nm → Nat
  | [], _ => 0
  | y :: r, t => if ltB y.1 t then posE r t + 1 else 0
def hasE (k : List En) (t : Nm) : Bool := k.any fun x => x.1 == t
theorem posE_le (t : Nm) : ∀ k : List En, posE k t ≤ k.length
  | [] => Nat.le_refl _
  | y :: r => by unfold posE; have := posE_le t r; split <;> simp <;> omega
theorem posE_lt {k : List En} {t : Nm} : ∀ (j : Nat) (hj : j < k.length), j < posE k t → ltB k[j].1 t = true := by
  induction k with
  | nil => intro j hj; simp at hj
  | cons y r ih =>
    intro j hj h
    unfold posE at h
    split at h
    · next hl =>
      cases j with
      | zero => exact hl
      | succ j => exact ih j (by simpa using hj) (by omega)
    · omega
theorem posE_ge {k : List En} (hs : SortE k) {t : Nm} : ∀ (j : Nat) (hj : j < k.length), posE k t ≤ j → ltB k[j].1 t = false := by
  induction k with
  | nil => intro j hj; simp at hj
  | cons y r ih =>
    intro j hj h
    obtain ⟨h1, h2⟩ := List.pairwise_cons.1 hs
    unfold posE at h
    split at h
    · next hl =>
      cases j with
      | zero => omega
      | succ j => exact ih h2 j (by simpa using hj) (by omega)
    · next hl =>
      cases j with
      | zero => simpa using hl
      | succ j =>
        have hjr : j < r.length := by simpa using hj
        show ltB r[j].1 t = false
        cases hb : ltB r[j].1 t with
        | false => rfl
        | true => exact absurd (ltB_trans (h1 _ (List.getElem_mem hjr)) hb) hl
theorem posE_is {k : List En} (hs : SortE k) {t : Nm} {i : Nat} (hi : i ≤ k.length) (h1 : ∀ (j : Nat) (hj : j < k.length), j < i → ltB k[j].1 t = true) (h2 : ∀ (j : Nat) (hj : j < k.length), i ≤ j → ltB k[j].1 t = false) : i = posE k t := by
  have hp := posE_le t k
  rcases Nat.lt_trichotomy i (posE k t) with h | h | h
  · have a := h2 i (by omega) (Nat.le_refl _)
    rw [posE_lt i (by omega) h] at a
    cases a
  · exact h
  · have a := h1 (posE k t) (by omega) h
    rw [posE_ge hs (posE k t) (by omega) (Nat.le_refl _)] at a
    cases a
theorem hasE_pos {k : List En} (hs : SortE k) {t : Nm} : hasE k t = match k[posE k t]? with | some x => decide (x.1 = t) | none => false := by
  rw [Bool.eq_iff_iff]
  unfold hasE
  rw [List.any_eq_true]
  constructor
  · rintro ⟨x, hx, he⟩
    have he : x.1 = t := by simpa using he
    obtain ⟨i, hi, hxi⟩ := List.getElem_of_mem hx
    have : i = posE k t := posE_is hs (by omega) (fun j hj hji => by
      rw [← he, ← hxi]
      exact (List.pairwise_iff_getElem.1 hs) j i hj hi hji) (fun j hj hji => by
      rw [← he, ← hxi]
      rcases Nat.lt_or_ge i j with h | h
      · exact ltB_asymm ((List.pairwise_iff_getElem.1 hs) i j hi hj h)
      · have : j = i := by omega
        subst this
        exact ltB_irrefl _)
    rw [← this, List.getElem?_eq_getElem hi, hxi]
    simpa using he
  · intro h
    cases hk : k[posE k t]? with
    | none => rw [hk] at h; cases h
    | some x =>
      rw [hk] at h
      exact ⟨x, List.mem_of_getElem? hk, by simpa using h⟩
theorem closure_str (nm t : Nm) (num : Nat) (w : World) : Calls Tryz.prog 100 #[.agg #[S nm, I num], S t] w fun e w' => e = .returned (I (cmpF nm t)) ∧ w' = w.alloc (.cells #[S nm, I num] 140) := by
  have HC := Lib.hid (fun W => compare_str nm t W)
  go_enter Tryz.func100, Tryz.ntmps100
  go_wp2_with (fail)
  refine (HC.out _).mono ?_
  rintro e w1 ⟨rfl, rfl⟩
  go_wp2_with (fail)
  go_ret
  exact ⟨rfl, rfl⟩
set_option maxHeartbeats 4000000 in
theorem bsearch_any (w : World) (v : Value) (k : List En) (hv : EnsAt w v k) (hs : SortE k) (hk : k.length ≤ 1000) (t : Nm) :
    Calls Tryz.prog 99 #[v, S t, .func (.func 100) #[] #[]] w fun e w' => e = .returned (.tuple #[I (posE k t), .bool (hasE k t)]) ∧ Kept [] w w' := by
  obtain ⟨p, c, b, rfl, hc, hp, hcl⟩ := hv
  have HH := Lib.hid (hasE_pos hs (t := t))
  have HC := Lib.hid (And.intro hp hcl)
  have HS := Lib.hid hs
  have HCL := Lib.hid (fun W nm (num : Nat) => closure_str nm t num W)
  have hkI : (k.length : Int) ≤ 1000 := by omega
  clear hp hcl hs hc
  go_enter Tryz.func99, Tryz.ntmps99
  go_wp2_with (fail)
  go_loopw [9, 10] (fun v9 v10 wr => ∃ (i j : Nat), v9 = I i ∧ v10 = I j ∧ i ≤ j ∧ j ≤ k.length ∧ (∀ (a : Nat) (ha : a < k.length), a < i → ltB k[a].1 t = true) ∧ (∀ (a : Nat) (ha : a < k.length), j ≤ a → ltB k[a].1 t = false) ∧ Kept [] w wr) (fun v9 v10 _ => (intOf v10).toNat - (intOf v9).toNat)
  case atStart => exact ⟨0, k.length, rfl, rfl, by omega, Nat.le_refl _, fun a _ h => by omega, fun a ha h => by omega, Kept.refl _ _⟩
  case round =>
    obtain ⟨i, j, rfl, rfl, hij, hj, h1, h2, kr⟩ := hrel
    have HR := Lib.hid (And.intro h1 (And.intro h2 kr))
    clear h1 h2 kr
    have hjI : (j : Int) ≤ k.length := by omega
    by_cases hlt : i < j
    · have hltI : (i : Int) < j := by omega
      obtain ⟨m, hm⟩ : ∃ m : Nat, (i + j) / 2 = m := ⟨_, rfl⟩
      have hmI : ((i : Int) + j) / 2 = (m : Int) := by omega
      have hml : m < k.length := by omega
      have hmlI : (m : Int) < k.length := by omega
      obtain ⟨hp, hcl⟩ := HC.out
      have hpe := hp (by intro h; rw [h] at hml; simp at hml)
      subst hpe
      obtain ⟨d0, d1⟩ := hcl m hml
      have e0 := HR.out.2.2.cellOf d0
      have e1 := HR.out.2.2.cellOf d1
      obtain ⟨⟨nm, num⟩, hx⟩ : ∃ x, k[m] = x := ⟨_, rfl⟩
      rw [hx] at e0 e1
      simp only at e0 e1
      have HX := Lib.hid (And.intro hx (And.intro hm (And.intro hml hmI)))
      have hm0 : (0 : Int) ≤ m := by omega
      have hmle : (m : Int) ≤ 1000 := by omega
      have k2 := HR.out.2.2.alloc (Obj.cells #[S nm, I num] 140)
      have K2 := Lib.hid k2
      clear hp hcl d0 d1 hx hm k2
      by_cases hcmp : cmpF nm t < 0
      · have HCM := Lib.hid (cmpF_neg.1 hcmp)
        go_wp2_with (fail)
        refine (HCL.out _ nm num).mono ?_
        rintro e w1 ⟨rfl, rfl⟩
        go_wp2_with (fail)
        go_roundw
        case rel =>
          obtain ⟨h1, h2, kr⟩ := HR.out
          obtain ⟨hx, hm, hml, hmI⟩ := HX.out
          refine ⟨m + 1, j, by go_num, rfl, by omega, hj, fun a ha h => ?_, h2, K2.out⟩
          by_cases ha2 : a = m
          · subst ha2; rw [hx]; exact HCM.out
          · cases hb : ltB k[a].1 t with
            | true => rfl
            | false =>
              have := (List.pairwise_iff_getElem.1 HS.out) a m ha hml (by omega)
              rw [hx] at this
              rw [ltB_trans this HCM.out] at hb
              cases hb
        case measure =>
          obtain ⟨hx, hm, hml, hmI⟩ := HX.out
          simp [intOf]; omega
      · have HCM : Hid (ltB nm t = false) := Lib.hid (by
          cases hb : ltB nm t with
          | false => rfl
          | true => exact absurd (cmpF_neg.2 hb) hcmp)
        have hcd : decide (cmpF nm t < 0) = false := decide_eq_false hcmp
        go_wp2_with (fail)
        refine (HCL.out _ nm num).mono ?_
        rintro e w1 ⟨rfl, rfl⟩
        go_wp2_with (fail)
        go_roundw
        case rel =>
          obtain ⟨h1, h2, kr⟩ := HR.out
          obtain ⟨hx, hm, hml, hmI⟩ := HX.out
          refine ⟨i, m, rfl, rfl, by omega, by omega, h1, fun a ha h => ?_, K2.out⟩
          by_cases ha2 : a = m
          · subst ha2; rw [hx]; exact HCM.out
          · have := (List.pairwise_iff_getElem.1 HS.out) m a hml ha (by omega)
            rw [hx] at this
            cases hb : ltB k[a].1 t with
            | false => rfl
            | true => rw [ltB_trans this hb] at HCM; have := HCM.out; cases this
        case measure =>
          obtain ⟨hx, hm, hml, hmI⟩ := HX.out
          simp [intOf]; omega
    · have hltI : ¬ (i : Int) < j := by omega
      have hij2 : i = j := by omega
      subst hij2
      have hpos : i = posE k t := posE_is HS.out hj HR.out.1 HR.out.2.1
      by_cases hil : i < k.length
      · have hilI : (i : Int) < k.length := by omega
        obtain ⟨hp, hcl⟩ := HC.out
        have hpe := hp (by intro h; rw [h] at hil; simp at hil)
        subst hpe
        obtain ⟨d0, d1⟩ := hcl i hil
        have e0 := HR.out.2.2.cellOf d0
        have e1 := HR.out.2.2.cellOf d1
        obtain ⟨⟨nm, num⟩, hx⟩ : ∃ x, k[i] = x := ⟨_, rfl⟩
        rw [hx] at e0 e1
        simp only at e0 e1
        have HE : Hid (hasE k t = decide (nm = t)) := Lib.hid (by
          rw [HH.out, ← hpos, List.getElem?_eq_getElem hil, hx])
        have HPOS := Lib.hid hpos
        have K2 := Lib.hid (HR.out.2.2.alloc (Obj.cells #[S nm, I num] 140))
        have hi0 : (0 : Int) ≤ i := by omega
        clear hp hcl d0 d1 hx hpos hil
        have HQ : Hid ((cmpF nm t == 0) = decide (nm = t)) := Lib.hid (by
          rw [Bool.eq_iff_iff]
          simp only [beq_iff_eq, decide_eq_true_eq]
          exact cmpF_zero)
        go_wp2_with (fail)
        refine (HCL.out _ nm num).mono ?_
        rintro e w1 ⟨rfl, rfl⟩
        go_wp2_with (fail)
        go_ret2
        exact ⟨by rw [← HPOS.out, HE.out, ← HQ.out]; rfl, K2.out⟩
      · have hilI : ¬ (i : Int) < k.length := by omega
        have HE : Hid (hasE k t = false) := Lib.hid (by
          rw [HH.out, ← hpos, List.getElem?_eq_none (by omega)])
        have HPOS := Lib.hid hpos
        clear hpos
        go_wp2_with (fail)
        go_ret2
        exact ⟨by rw [← HPOS.out, HE.out]; rfl, HR.out.2.2⟩
theorem entered_any (w : World) (v : Value) (k : List En) (hv : EnsAt w v k) (hs : SortE k) (hk : k.length ≤ 1000) (t : Nm) :
    Calls Tryz.prog 58 #[v, S t] w fun e w' => e = .returned (.tuple #[I (posE k t), .bool (hasE k t)]) ∧ Kept [] w w' := by
  have HB := Lib.hid (bsearch_any w v k hv hs hk t)
  obtain ⟨p, c, b, rfl, _⟩ := hv
  clear hs hk
  go_enter Tryz.func58, Tryz.ntmps58
  go_wp2_with (fail)
  refine HB.out.mono ?_
  rintro e w1 ⟨rfl, k1⟩
  have K1 := Lib.hid k1
  clear k1
  go_wp2_with (fail)
  go_ret2
  exact ⟨rfl, K1.out⟩
end Go.Proofs.YtncdfaocemfgfaaGreatDoor
