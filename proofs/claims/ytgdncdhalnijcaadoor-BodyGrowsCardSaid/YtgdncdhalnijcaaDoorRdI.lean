/- Walks and lemmas on the program of this seat, used by its statements; each theorem bears its own conditions. -/
import Derived.Test.YtgdncdhalnijcaaDoorRdH
namespace Go.Proofs.YtgdncdhalnijcaaDoor
open Go.RowKit
set_option linter.unusedVariables false
set_option linter.unusedSimpArgs false
namespace BD
@[go_sem] theorem str_get (l : List UInt8) (k : Nat) (h : k < (⟨l.toArray⟩ : ByteArray).size) : (⟨l.toArray⟩ : ByteArray)[k] = l[k]'(by simpa [ByteArray.size] using h) := by
  simp [ByteArray.getElem_eq_getElem_data]
/-! ### 'length' -/
def isDig (c : UInt8) : Bool := decide (48 ≤ c.toNat ∧ c.toNat ≤ 57)
def digs (l : List UInt8) : Int := l.foldl (fun n c => 10 * n + ((c.toNat : Int) - 48)) 0
def lengthF (l : List UInt8) : Int := if l = [] ∨ 9 < l.length then -1 else if l.all isDig then digs l else -1
theorem digs_snoc (l : List UInt8) (c : UInt8) : digs (l ++ [c]) = 10 * digs l + ((c.toNat : Int) - 48) := by simp [digs]
theorem digs_bd (l : List UInt8) (h : l.all isDig = true) : ∀ k, k ≤ l.length → 0 ≤ digs (l.take k) ∧ digs (l.take k) < (10 ^ k : Nat) := by
  intro k
  induction k with
  | zero => intro _; simp [digs]
  | succ k ih =>
    intro hk
    have i := ih (by omega)
    rw [List.take_succ_eq_append_getElem (by omega), digs_snoc]
    have hd : isDig l[k] = true := (List.all_eq_true.1 h) _ (List.getElem_mem _)
    simp only [isDig, decide_eq_true_eq] at hd
    have hp : (10 ^ (k + 1) : Nat) = 10 * 10 ^ k := by rw [Nat.pow_succ]; omega
    omega
theorem pow10_le (k : Nat) (h : k ≤ 9) : (10 ^ k : Nat) ≤ 1000000000 := by
  have : k = 0 ∨ k = 1 ∨ k = 2 ∨ k = 3 ∨ k = 4 ∨ k = 5 ∨ k = 6 ∨ k = 7 ∨ k = 8 ∨ k = 9 := by omega
  rcases this with h | h | h | h | h | h | h | h | h | h <;> subst h <;> decide
theorem all_take_snoc (l : List UInt8) (k : Nat) (h : k < l.length) : (l.take (k + 1)).all isDig = ((l.take k).all isDig && isDig l[k]) := by
  rw [List.take_succ_eq_append_getElem h, List.all_append]; simp
set_option maxRecDepth 100000 in
set_option maxHeartbeats 1000000 in
theorem length_any (l : List UInt8) (w : World) :
    Calls Tryd.prog 18 #[S l] w fun e w' => e = .returned (I (lengthF l)) ∧ w = w' := by
  by_cases hs : l = []
  · subst hs
    go_enter Tryd.func18, Tryd.ntmps18
    go_wp2_with (fail)
    go_ret
    exact ⟨rfl, rfl⟩
  have hse : (!l.isEmpty) = true := by simpa using hs
  have hse' : l.isEmpty = false := by simpa using hs
  by_cases h9 : 9 < l.length
  · have HF : Hid (lengthF l = -1) := by unfold Hid lengthF; rw [if_pos (.inr h9)]
    have h9' : (9 : Int) < l.length := by omega
    clear hs
    go_enter Tryd.func18, Tryd.ntmps18
    go_wp2_with (fail)
    go_ret
    exact ⟨by rw [HF.out]; rfl, rfl⟩
  have h9' : (l.length : Int) ≤ 9 := by omega
  have HF : Hid (lengthF l = if l.all isDig then digs l else -1) := by unfold Hid lengthF; rw [if_neg (by simp [hs]; omega)]
  clear hs h9
  go_enter Tryd.func18, Tryd.ntmps18
  go_wp2_with (fail)
  go_loop [3, 14] (fun n i => ∃ k : Nat, k ≤ l.length ∧ i = I k ∧ n = I (digs (l.take k)) ∧ (l.take k).all isDig = true) (fun _ i => l.length - (intOf i).toNat)
  case atStart => exact ⟨0, by omega, rfl, rfl, rfl⟩
  case round =>
    obtain ⟨k, hk, rfl, rfl, hall⟩ := hrel
    have hbd := digs_bd (l.take k) hall k (by simp; omega)
    rw [List.take_take, Nat.min_self] at hbd
    have hp := pow10_le k (by omega)
    obtain ⟨hb0, hb1⟩ : 0 ≤ digs (l.take k) ∧ digs (l.take k) < 1000000000 := by omega
    have HA := Lib.hid hall
    clear hall hbd hp
    by_cases hlt : k < l.length
    · have hsn := all_take_snoc l k hlt
      have hds : digs (l.take (k + 1)) = 10 * digs (l.take k) + ((l[k].toNat : Int) - 48) := by rw [List.take_succ_eq_append_getElem hlt, digs_snoc]
      have hmem : l[k] ∈ l := List.getElem_mem _
      obtain ⟨c, hc⟩ : ∃ c, l[k] = c := ⟨_, rfl⟩
      rw [hc] at hsn hds hmem
      have hcl : c.toNat < 256 := c.toNat_lt
      have HS := Lib.hid hsn
      have HD := Lib.hid hds
      have HM := Lib.hid hmem
      generalize digs (l.take k) = d at *
      clear hsn hds hmem
      by_cases hdg : 48 ≤ c.toNat ∧ c.toNat ≤ 57
      · have hdd : isDig c = true := by simp [isDig, hdg]
        obtain ⟨h1, h2⟩ := hdg
        have h1' : (48 : Int) ≤ c.toNat := by omega
        have h2' : (c.toNat : Int) ≤ 57 := by omega
        go_wp2_with (fail)
        go_round
        case rel => exact ⟨k + 1, by omega, by go_num, by rw [HD.out], by rw [HS.out, HA.out, hdd]; rfl⟩
        case measure => simp [intOf]; omega
      · have hdd : isDig c = false := by simp only [isDig, decide_eq_false_iff_not]; exact hdg
        have HE : Hid (lengthF l = -1) := by
          unfold Hid
          rw [HF.out, if_neg]
          intro h
          have := (List.all_eq_true.1 h) c HM.out
          rw [hdd] at this; cases this
        go_wp2_with (fail)
        all_goals first
          | (exfalso; omega)
          | (go_ret; exact ⟨by rw [HE.out]; rfl, rfl⟩)
    · go_wp2_with (fail)
      go_ret
      have ht : l.take k = l := List.take_of_length_le (by omega)
      have ha := HA.out
      rw [ht] at ha
      rw [ht, HF.out, if_pos ha]
      exact ⟨rfl, rfl⟩
end BD
end Go.Proofs.YtgdncdhalnijcaaDoor
