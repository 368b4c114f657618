/- Walks and lemmas on the program of this seat, used by its statements; each theorem bears its own conditions. -/
import Derived.Test.YtgdioalhlmnhhaaDoorHRA
import Derived.Test.YtgdioalhlmnhhaaDoorHNM
import Derived.Test.YtgdioalhlmnhhaaDoorHM
import Derived.Handy
import Derived.Deep.CutRange
namespace Go.Proofs.YtgdioalhlmnhhaaDoor
open Go.RowKit
set_option linter.unusedVariables false
set_option linter.unusedSimpArgs false
/-! ### kinds, kind; After, Lines, Same -/
theorem kinds_any (w : World) : Calls Tryd.prog 98 #[] w fun e w' => e = .returned (.slice (some ⟨w.heap.size, 0, none⟩) 3 3) ∧ w' = w.alloc (.cells #[S WX.nameP, S WX.devP, S WX.sizeP] 9) := by
  go_enter Tryd.func98, Tryd.ntmps98
  go_wp2
  go_ret
  exact ⟨rfl, rfl⟩
theorem prefix_at (l k : List UInt8) (b : Bool) (w : World) (h : k.isPrefixOf l = b) : Calls Tryd.prog 99 #[S l, S k] w fun e w' => e = .returned (.bool b) ∧ w = w' :=
  (Tryd.strings_HasPrefix ⟨l.toArray⟩ ⟨k.toArray⟩ w).mono fun e w' ⟨h1, h2⟩ => ⟨by rw [h1, ← h]; rfl, h2.symm⟩
def ksL : List (List UInt8) := [WX.nameP, WX.devP, WX.sizeP]
def kindK (l : List UInt8) (k : Nat) : Prop := ∀ j, j < k → WX.isK (ksL.getD j []) l = false
theorem kindL_yes {l : List UInt8} {k : Nat} (h : kindK l k) (hk : k < 3) (hy : WX.isK (ksL.getD k []) l = true) : WX.kindL l = ksL.getD k [] := by
  have : k = 0 ∨ k = 1 ∨ k = 2 := by omega
  unfold WX.kindL
  rcases this with rfl | rfl | rfl
  · rw [if_pos (show WX.isK WX.nameP l = true from hy)]; rfl
  · rw [if_neg (by have := h 0 (by omega); simpa [ksL] using this), if_pos (show WX.isK WX.devP l = true from hy)]; rfl
  · rw [if_neg (by have := h 0 (by omega); simpa [ksL] using this), if_neg (by have := h 1 (by omega); simpa [ksL] using this), if_pos (show WX.isK WX.sizeP l = true from hy)]; rfl
theorem kindL_no {l : List UInt8} (h : kindK l 3) : WX.kindL l = [] := by
  unfold WX.kindL
  rw [if_neg (by have := h 0 (by omega); simpa [ksL] using this), if_neg (by have := h 1 (by omega); simpa [ksL] using this), if_neg (by have := h 2 (by omega); simpa [ksL] using this)]
theorem ks_cell (j : Nat) (h : j < 3) : (#[S WX.nameP, S WX.devP, S WX.sizeP] : Array Value)[j]? = some (S (ksL.getD j [])) := by
  have : j = 0 ∨ j = 1 ∨ j = 2 := by omega
  rcases this with rfl | rfl | rfl <;> rfl
theorem ks_len (j : Nat) : (ksL.getD j []).length ≤ 7 := by
  by_cases h : j < 3
  · have : j = 0 ∨ j = 1 ∨ j = 2 := by omega
    rcases this with rfl | rfl | rfl <;> decide
  · rw [List.getD_eq_getElem?_getD, List.getElem?_eq_none (by simp [ksL]; omega)]; simp
theorem kind_any (l : List UInt8) (w : World) (hl : l.length ≤ 9223372036854775807) (r : List UInt8) (hr : WX.kindL l = r) :
    Calls Tryd.prog 65 #[S l] w fun e w' => e = .returned (S r) ∧ Kept [] w w' := by
  have hl' : (l.length : Int) ≤ 9223372036854775807 := by omega
  have HR := Lib.hid hr
  have HB : Hid ((w.alloc (.cells #[S WX.nameP, S WX.devP, S WX.sizeP] 9)).heap[w.heap.size]? = some (.cells #[S WX.nameP, S WX.devP, S WX.sizeP] 9 (0, 0)) ∧ Kept [] w (w.alloc (.cells #[S WX.nameP, S WX.devP, S WX.sizeP] 9))) := Lib.hid ⟨heap_new w _, (Kept.refl _ _).alloc _⟩
  clear hr
  go_enter Tryd.func65, Tryd.ntmps65
  go_wp2_with (fail)
  refine (kinds_any w).mono ?_
  rintro e w1 ⟨rfl, hw1⟩
  rw [← hw1] at HB
  clear hw1
  go_wp2_with (fail)
  go_loop [7] (fun iv => ∃ k : Nat, iv = I k ∧ k ≤ 3 ∧ kindK l k) (fun iv => 3 - (intOf iv).toNat)
  case atStart => exact ⟨0, rfl, by omega, fun j hj => by omega⟩
  case round =>
    obtain ⟨k, rfl, hk, hno⟩ := hrel
    have HN := Lib.hid hno
    clear hno
    by_cases hlt : k < 3
    · have hlt' : (k : Int) < 3 := by omega
      have c1 := cell_at HB.out.1 k
      rw [ks_cell k hlt] at c1
      have hkl := ks_len k
      obtain ⟨x, hx⟩ : ∃ x, ksL.getD k [] = x := ⟨_, rfl⟩
      rw [hx] at c1 hkl
      have HX := Lib.hid hx
      have hkl' : (x.length : Int) ≤ 7 := by omega
      clear hx hkl
      by_cases hgt : (l.length : Int) > x.length
      · obtain ⟨b, hb⟩ : ∃ b, x.isPrefixOf l = b := ⟨_, rfl⟩
        have HPF := Lib.hid (prefix_at l x b w1 hb)
        have HK : Hid (WX.isK (ksL.getD k []) l = b) := Lib.hid (by rw [HX.out]; unfold WX.isK; rw [hb, decide_eq_true (show x.length < l.length by omega)]; simp)
        clear hb
        go_wp2_with (fail)
        refine HPF.out.mono ?_
        rintro e w2 ⟨rfl, rfl⟩
        cases b with
        | true =>
          go_wp2_with (fail)
          go_ret
          exact ⟨by rw [← HR.out, kindL_yes HN.out hlt HK.out, HX.out]; rfl, HB.out.2⟩
        | false =>
          go_wp2_with (fail)
          go_round
          case rel => exact ⟨k + 1, by go_num, by omega, fun j hj => by
            by_cases hjk : j = k
            · subst hjk; exact HK.out
            · exact HN.out j (by omega)⟩
          case measure => simp [intOf]; omega
      · have hgd : decide ((l.length : Int) > x.length) = false := decide_eq_false hgt
        have HK : Hid (WX.isK (ksL.getD k []) l = false) := Lib.hid (by rw [HX.out]; unfold WX.isK; rw [decide_eq_false (show ¬ x.length < l.length by omega)]; simp)
        go_wp2_with (fail)
        go_round
        case rel => exact ⟨k + 1, by go_num, by omega, fun j hj => by
          by_cases hjk : j = k
          · subst hjk; exact HK.out
          · exact HN.out j (by omega)⟩
        case measure => simp [intOf]; omega
    · obtain rfl : k = 3 := by omega
      go_wp2_with (fail)
      go_ret
      exact ⟨by rw [← HR.out, kindL_no HN.out]; rfl, HB.out.2⟩
/-! 'After' -/
theorem take_prefix (l k : List UInt8) (h : k.length < l.length) : (l.take k.length == k) = k.isPrefixOf l := by
  rw [Bool.eq_iff_iff, beq_iff_eq, List.isPrefixOf_iff_prefix]
  constructor
  · intro e; exact ⟨l.drop k.length, by conv => lhs; lhs; rw [← e]
                                        exact List.take_append_drop _ _⟩
  · rintro ⟨t, rfl⟩; simp
theorem after_any (l k : List UInt8) (w : World) (hl : l.length ≤ 9223372036854775807) (hkl : k.length ≤ 100) (b : Bool) (hb : WX.isK k l = b) :
    Calls Tryd.prog 63 #[S l, S k] w fun e w' => e = .returned (.tuple #[S (if b then l.drop k.length else []), .bool b]) ∧ w = w' := by
  have hl' : (l.length : Int) ≤ 9223372036854775807 := by omega
  have hkl' : (k.length : Int) ≤ 100 := by omega
  by_cases hgt : k.length < l.length
  · have hle : ¬ (l.length : Int) ≤ k.length := by omega
    have hle2 : decide ((l.length : Int) ≤ k.length) = false := decide_eq_false hle
    have hk2 : (k.length : Int) ≤ l.length := by omega
    have hp : (l.take k.length == k) = b := by rw [take_prefix l k hgt, ← hb]; unfold WX.isK; rw [decide_eq_true hgt]; simp
    have hp2 : (l.take k.length != k) = !b := by rw [bne, hp]
    clear hb
    cases b with
    | true =>
      go_enter Tryd.func63, Tryd.ntmps63
      go_wp2_with (fail)
      go_returns
      exact ⟨rfl, rfl⟩
    | false =>
      go_enter Tryd.func63, Tryd.ntmps63
      go_wp2_with (fail)
      go_returns
      exact ⟨rfl, rfl⟩
  · have hle : (l.length : Int) ≤ k.length := by omega
    have HB : Hid (b = false) := Lib.hid (by rw [← hb]; unfold WX.isK; rw [decide_eq_false hgt]; simp)
    obtain rfl := HB.out
    clear hb
    go_enter Tryd.func63, Tryd.ntmps63
    go_wp2_with (fail)
    go_returns
    exact ⟨rfl, rfl⟩
end Go.Proofs.YtgdioalhlmnhhaaDoor
