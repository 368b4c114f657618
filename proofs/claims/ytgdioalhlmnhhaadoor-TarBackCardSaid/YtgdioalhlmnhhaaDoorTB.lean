/- Walks and lemmas on the program of this seat, used by its statements; each theorem bears its own conditions. -/
import Derived.Test.YtgdioalhlmnhhaaDoorTA
import Derived.Handy
import Derived.IntWalk
namespace Go.Proofs.YtgdioalhlmnhhaaDoor
open Go.RowKit
set_option linter.unusedVariables false
set_option linter.unusedSimpArgs false
def numR (l : List UInt8) : Int := match TX.numL l with | none => -1 | some n => n
theorem numL_stop (l : List UInt8) (i : Nat) (h1 : TX.nOct l ≤ i) (h2 : i < l.length) (h3 : TX.blank (byteAt l i) = false) : TX.numL l = none := by
  unfold TX.numL
  rw [if_pos]
  right; right
  rw [Bool.eq_false_iff]
  intro h
  rw [List.all_eq_true] at h
  have hm : byteAt l i ∈ l.drop (TX.nOct l) := by
    rw [byteAt_eq l i h2, List.mem_drop_iff_getElem]
    exact ⟨i - TX.nOct l, by omega, by congr 1; omega⟩
  rw [h _ hm] at h3; cases h3
theorem numL_go (l : List UInt8) (h0 : 0 < TX.nOct l) (h1 : TX.nOct l < l.length) (h : ∀ i, TX.nOct l ≤ i → i < l.length → TX.blank (byteAt l i) = true) : TX.numL l = some (TX.octV (l.take (TX.nOct l)) 0) := by
  unfold TX.numL
  rw [if_neg]
  rintro (h2 | h2 | h2)
  · omega
  · omega
  · rw [Bool.eq_false_iff] at h2
    apply h2
    rw [List.all_eq_true]
    intro c hc
    rw [List.mem_drop_iff_getElem] at hc
    obtain ⟨i, hi, rfl⟩ := hc
    rw [← byteAt_eq l _ (by omega)]
    exact h _ (by omega) (by omega)
theorem numL_none (l : List UInt8) (h : TX.nOct l = 0 ∨ TX.nOct l = l.length) : TX.numL l = none := by
  unfold TX.numL
  rw [if_pos]
  rcases h with h | h
  · exact .inl h
  · exact .inr (.inl h)
theorem octV_bd (l : List UInt8) (k : Nat) (hk : k ≤ TX.nOct l) (h : k ≤ 19) : TX.octV (l.take k) 0 < 144115188075855872 := TX.octV_take_lt l k hk 19 h
set_option maxHeartbeats 4000000 in
set_option maxRecDepth 100000 in
theorem rnumber_any (l : List UInt8) (w : World) (hl : l.length ≤ 19) :
    Calls Tryd.prog 55 #[S l] w fun e w' => e = .returned (I (numR l)) ∧ w = w' := by
  have hl' : (l.length : Int) ≤ 19 := by omega
  have hno := TX.nOct_le l
  go_enter Tryd.func55, Tryd.ntmps55
  go_wp2
  go_loop [3, 4] (fun n i => ∃ p : Nat, p ≤ TX.nOct l ∧ i = I p ∧ n = I (TX.octV (l.take p) 0)) (fun _ i => l.length - (intOf i).toNat)
  case atStart => exact ⟨0, by omega, rfl, rfl⟩
  case round =>
    obtain ⟨p, hp, rfl, rfl⟩ := hrel
    have hb := octV_bd l p hp (by omega)
    obtain ⟨x, hx⟩ : ∃ x, TX.octV (l.take p) 0 = x := ⟨_, rfl⟩
    rw [hx] at hb ⊢
    have hbi : (x : Int) < 144115188075855872 := by omega
    rcases Nat.lt_or_ge p (TX.nOct l) with hlt | hge
    · have hlt' : (p : Int) < l.length := by omega
      obtain ⟨hc0, hc1⟩ := (octB _).1 (TX.oct_below l p hlt)
      have HN : Hid (TX.octV (l.take (p + 1)) 0 = 8 * x + ((byteAt l p).toNat - 48)) := Lib.hid (by rw [TX.octV_step l p (by omega), hx])
      have hsub : ((byteAt l p).toNat : Int) - 48 = (((byteAt l p).toNat - 48 : Nat) : Int) := by omega
      clear hx
      go_wp2
      go_round
      case rel => exact ⟨p + 1, by omega, by go_num, by rw [HN.out]; go_num⟩
      case measure => (simp [intOf]; omega)
    · obtain rfl : p = TX.nOct l := by omega
      obtain ⟨q, hq⟩ : ∃ q, TX.nOct l = q := ⟨_, rfl⟩
      have HX := Lib.hid hx
      clear hx hge hp
      have HQ := Lib.hid hq
      have hstop : q = l.length ∨ q < l.length ∧ TX.isOct (byteAt l q) = false := by
        rcases Nat.eq_or_lt_of_le hno with h | h
        · exact .inl (by omega)
        · exact .inr ⟨by omega, by rw [← hq]; exact TX.oct_stop l h⟩
      rw [hq] at hno
      rw [hq] at HX
      rw [hq]
      clear hb hbi
      rcases Nat.eq_zero_or_pos q with hq0 | hq0
      · have HR : Hid (numR l = -1) := Lib.hid (by unfold numR; rw [numL_none l (.inl (HQ.out.trans hq0))])
        subst hq0
        rcases hstop with he | ⟨he, ho⟩
        · have he' : (l.length : Int) = 0 := by omega
          clear hq he
          go_wp2
          go_ret
          exact ⟨by rw [HR.out]; rfl, rfl⟩
        · have he' : (0 : Int) < (l.length : Int) := by omega
          have ho' := (octB' _).1 ho
          clear ho hq he
          rcases ho' with ho' | ho' <;>
          · go_wp2
            all_goals (go_ret; exact ⟨by rw [HR.out]; rfl, rfl⟩)
      · have hq0' : (0 : Int) < (q : Int) := by omega
        rcases hstop with he | ⟨he, ho⟩
        · have HR : Hid (numR l = -1) := Lib.hid (by unfold numR; rw [numL_none l (.inr (HQ.out.trans he))])
          subst he
          have hne : ¬ l = [] := fun e => by rw [e] at hq0; simp at hq0
          clear hq
          go_wp2
          go_ret
          exact ⟨by rw [HR.out]; rfl, rfl⟩
        · have he' : (q : Int) < (l.length : Int) := by omega
          have ho' := (octB' _).1 ho
          clear ho hq
          have hq1 : q < l.length := he
          have HS : Hid (TX.nOct l = q ∧ TX.octV (l.take q) 0 = x) := Lib.hid ⟨HQ.out, HX.out⟩
          have e1 : ((q : Int) == 0) = false := by rw [beq_eq_false_iff_ne]; omega
          have e2 : ((q : Int) == (l.length : Int)) = false := by rw [beq_eq_false_iff_ne]; omega
          clear he
          rcases ho' with ho' | ho' <;>
          · go_wp2
            go_loop [4] (fun i => ∃ p : Nat, q ≤ p ∧ p ≤ l.length ∧ i = I p ∧ ∀ j, q ≤ j → j < p → TX.blank (byteAt l j) = true) (fun i => l.length - (intOf i).toNat)
            case atStart => exact ⟨q, by omega, by omega, rfl, fun j h1 h2 => by omega⟩
            case round =>
              obtain ⟨p, hp1, hp2, rfl, hall⟩ := hrel
              have HA := Lib.hid hall
              clear hall
              rcases Nat.eq_or_lt_of_le hp2 with he | hlt
              · have HR : Hid (numR l = x) := Lib.hid (by
                  unfold numR
                  rw [numL_go l (by rw [HS.out.1]; exact hq0) (by rw [HS.out.1]; exact hq1) (fun j h1 h2 => HA.out j (by rw [← HS.out.1]; exact h1) (by omega)), HS.out.1, HS.out.2])
                subst he
                clear ho' hq0 hq1
                go_wp2
                go_ret
                exact ⟨by rw [HR.out]; rfl, rfl⟩
              · have hlt' : (p : Int) < l.length := by omega
                cases hbl : TX.blank (byteAt l p) with
                | true =>
                  have hbl' : ((byteAt l p).toNat : Int) = 0 ∨ ((byteAt l p).toNat : Int) = 32 := by simp only [TX.blank, decide_eq_true_eq] at hbl; omega
                  have HB := Lib.hid hbl
                  clear ho' hbl
                  rcases hbl' with hbl' | hbl' <;>
                  · go_wp2
                    go_round
                    case rel => exact ⟨p + 1, by omega, by omega, by go_num, fun j h1 h2 => by
                      rcases Nat.lt_or_ge j p with h | h
                      · exact HA.out j h1 h
                      · obtain rfl : j = p := by omega
                        exact HB.out⟩
                    case measure => (simp [intOf]; omega)
                | false =>
                  have hbl' : ¬ ((byteAt l p).toNat : Int) = 0 ∧ ¬ ((byteAt l p).toNat : Int) = 32 := by simp only [TX.blank, decide_eq_false_iff_not] at hbl; omega
                  have HR : Hid (numR l = -1) := Lib.hid (by unfold numR; rw [numL_stop l p (by rw [HS.out.1]; exact hp1) hlt hbl])
                  obtain ⟨hb1, hb2⟩ := hbl'
                  have hb3 : (((byteAt l p).toNat : Int) != 0) = true := by simpa using hb1
                  have hb4 : (((byteAt l p).toNat : Int) != 32) = true := by rw [bne_iff_ne]; exact hb2
                  clear ho' hbl
                  go_wp2
                  go_ret
                  exact ⟨by rw [HR.out]; rfl, rfl⟩
end Go.Proofs.YtgdioalhlmnhhaaDoor
