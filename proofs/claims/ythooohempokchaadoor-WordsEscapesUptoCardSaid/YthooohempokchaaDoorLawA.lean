/- Walks and lemmas on the program of this seat, used by its statements; each theorem bears its own conditions. -/
import Derived.Test.YthooohempokchaaDoorLeafG
namespace Go.Proofs.YthooohempokchaaDoor
open Go.RowKit
set_option linter.unusedVariables false
set_option linter.unusedSimpArgs false
/-! ### The statements' walks -/
theorem esc_eq_eq (a b : List UInt8) : (WX.escL a == WX.escL b) = (a == b) := by
  rw [Bool.eq_iff_iff]; simp; exact ⟨WX.escL_inj, fun h => by rw [h]⟩
set_option maxHeartbeats 1000000 in
set_option maxRecDepth 100000 in
theorem once_any (a b : List UInt8) (w : World) (ha : a.length ≤ 35184372088832) (hb : b.length ≤ 35184372088832) (hT : Tabs w) :
    Calls Tryd.prog 9 #[S a, S b] w fun e w' => e = .returned (.bool true) ∧ Kept [] w w' := by
  have HT := Lib.hid hT
  clear hT
  have he := esc_eq_eq a b
  cases hc : (a == b) with
  | true =>
    rw [hc] at he
    cases hn : WX.nameB a with
    | true =>
      have hna : (WX.escL a == a) = true := by rw [WX.escL_name hn]; simp
      have HN := Lib.hid hn
      clear hn
      go_enter Tryd.func9, Tryd.ntmps9
      go_wp2_with (fail)
      refine (escape_any a w ha).mono ?_
      rintro e w1 ⟨rfl, k1⟩
      have H1 := Lib.hid k1
      clear k1
      go_wp2_with (fail)
      refine (escape_any b w1 hb).mono ?_
      rintro e w2 ⟨rfl, k2⟩
      have H2 := Lib.hid (H1.out.trans' k2)
      clear k2
      go_wp2_with (fail)
      refine (fixed_any w2 (HT.out.kept H2.out)).mono ?_
      rintro e w3 ⟨rfl, k3⟩
      have H3 := Lib.hid (H2.out.trans' k3)
      clear k3
      go_wp2_with (fail)
      refine (name_at a true w3 HN.out (by omega) (HT.out.kept H3.out)).mono ?_
      rintro e w4 ⟨rfl, k4⟩
      have H4 := Lib.hid (H3.out.trans' k4)
      clear k4
      go_wp2
      go_ret
      exact ⟨rfl, H4.out⟩
    | false =>
      have HN := Lib.hid hn
      clear hn
      go_enter Tryd.func9, Tryd.ntmps9
      go_wp2_with (fail)
      refine (escape_any a w ha).mono ?_
      rintro e w1 ⟨rfl, k1⟩
      have H1 := Lib.hid k1
      clear k1
      go_wp2_with (fail)
      refine (escape_any b w1 hb).mono ?_
      rintro e w2 ⟨rfl, k2⟩
      have H2 := Lib.hid (H1.out.trans' k2)
      clear k2
      go_wp2_with (fail)
      refine (fixed_any w2 (HT.out.kept H2.out)).mono ?_
      rintro e w3 ⟨rfl, k3⟩
      have H3 := Lib.hid (H2.out.trans' k3)
      clear k3
      go_wp2_with (fail)
      refine (name_at a false w3 HN.out (by omega) (HT.out.kept H3.out)).mono ?_
      rintro e w4 ⟨rfl, k4⟩
      have H4 := Lib.hid (H3.out.trans' k4)
      clear k4
      go_wp2
      go_ret
      exact ⟨rfl, H4.out⟩
  | false =>
    rw [hc] at he
    cases hn : WX.nameB a with
    | true =>
      have hna : (WX.escL a == a) = true := by rw [WX.escL_name hn]; simp
      have HN := Lib.hid hn
      clear hn
      go_enter Tryd.func9, Tryd.ntmps9
      go_wp2_with (fail)
      refine (escape_any a w ha).mono ?_
      rintro e w1 ⟨rfl, k1⟩
      have H1 := Lib.hid k1
      clear k1
      go_wp2_with (fail)
      refine (escape_any b w1 hb).mono ?_
      rintro e w2 ⟨rfl, k2⟩
      have H2 := Lib.hid (H1.out.trans' k2)
      clear k2
      go_wp2_with (fail)
      refine (fixed_any w2 (HT.out.kept H2.out)).mono ?_
      rintro e w3 ⟨rfl, k3⟩
      have H3 := Lib.hid (H2.out.trans' k3)
      clear k3
      go_wp2_with (fail)
      refine (name_at a true w3 HN.out (by omega) (HT.out.kept H3.out)).mono ?_
      rintro e w4 ⟨rfl, k4⟩
      have H4 := Lib.hid (H3.out.trans' k4)
      clear k4
      go_wp2
      go_ret
      exact ⟨rfl, H4.out⟩
    | false =>
      have HN := Lib.hid hn
      clear hn
      go_enter Tryd.func9, Tryd.ntmps9
      go_wp2_with (fail)
      refine (escape_any a w ha).mono ?_
      rintro e w1 ⟨rfl, k1⟩
      have H1 := Lib.hid k1
      clear k1
      go_wp2_with (fail)
      refine (escape_any b w1 hb).mono ?_
      rintro e w2 ⟨rfl, k2⟩
      have H2 := Lib.hid (H1.out.trans' k2)
      clear k2
      go_wp2_with (fail)
      refine (fixed_any w2 (HT.out.kept H2.out)).mono ?_
      rintro e w3 ⟨rfl, k3⟩
      have H3 := Lib.hid (H2.out.trans' k3)
      clear k3
      go_wp2_with (fail)
      refine (name_at a false w3 HN.out (by omega) (HT.out.kept H3.out)).mono ?_
      rintro e w4 ⟨rfl, k4⟩
      have H4 := Lib.hid (H3.out.trans' k4)
      clear k4
      go_wp2
      go_ret
      exact ⟨rfl, H4.out⟩
theorem pieces_len' (a b : List UInt8) : (WX.escL a).length ≤ 4 * a.length ∧ (WX.escL b).length ≤ 4 * b.length := ⟨WX.escL_len a, WX.escL_len b⟩
set_option maxHeartbeats 1000000 in
set_option maxRecDepth 100000 in
theorem piecesLaw_any (a b : List UInt8) (w : World) (hab : a.length + b.length ≤ 35184372088832) (hT : Tabs w) :
    Calls Tryd.prog 8 #[S a, S b] w fun e w' => e = .returned (.bool true) ∧ Kept [] w w' := by
  have HT := Lib.hid hT
  clear hT
  obtain ⟨l1, l2⟩ := pieces_len' a b
  have l3 : (a.length : Int) + b.length ≤ 35184372088832 := by omega
  have l4 : ((WX.escL a).length : Int) + (WX.escL b).length ≤ 140737488355328 := by omega
  obtain ⟨n, hn⟩ : ∃ n, WX.nameB a = n := ⟨_, rfl⟩
  have hna : n = true → (WX.escL a == a) = true := fun h => by rw [WX.escL_name (hn.trans h)]; simp
  obtain ⟨t, ht⟩ : ∃ t, WX.textB a = t := ⟨_, rfl⟩
  have hta : t = true → (WX.escL (a ++ b) == WX.escL a ++ WX.escL b) = true := fun h => by rw [WX.escL_pieces a b (ht.trans h)]; simp
  have HN := Lib.hid (And.intro hn (And.intro hna (And.intro ht hta)))
  clear hn hna ht hta
  go_enter Tryd.func8, Tryd.ntmps8
  go_wp2_with (fail)
  refine (escape_any a w (by omega)).mono ?_
  rintro e w1 ⟨rfl, k1⟩
  have H1 := Lib.hid k1
  clear k1
  go_wp2_with (fail)
  refine (escape_any b w1 (by omega)).mono ?_
  rintro e w2 ⟨rfl, k2⟩
  have H2 := Lib.hid (H1.out.trans' k2)
  clear k2
  go_wp2_with (fail)
  refine (fixed_any w2 (HT.out.kept H2.out)).mono ?_
  rintro e w3 ⟨rfl, k3⟩
  have H3 := Lib.hid (H2.out.trans' k3)
  clear k3
  go_wp2_with (fail)
  refine (name_at a n w3 HN.out.1 (by omega) (HT.out.kept H3.out)).mono ?_
  rintro e w4 ⟨rfl, k4⟩
  have H4 := Lib.hid (H3.out.trans' k4)
  clear k4
  cases n with
  | true =>
    have hq := HN.out.2.1 rfl
    go_wp2_with (fail)
    refine (text_at a t w4 HN.out.2.2.1 (by omega) (HT.out.kept H4.out)).mono ?_
    rintro e w5 ⟨rfl, k5⟩
    have H5 := Lib.hid (H4.out.trans' k5)
    clear k5
    cases t with
    | true =>
      have hr := HN.out.2.2.2 rfl
      go_wp2_with (fail)
      refine (escape_any (a ++ b) w5 (by simp; omega)).mono ?_
      rintro e w6 ⟨rfl, k6⟩
      have H6 := Lib.hid (H5.out.trans' k6)
      clear k6
      go_wp2
      go_ret
      exact ⟨rfl, H6.out⟩
    | false =>
      go_wp2
      go_ret
      exact ⟨rfl, H5.out⟩
  | false =>
    go_wp2_with (fail)
    refine (text_at a t w4 HN.out.2.2.1 (by omega) (HT.out.kept H4.out)).mono ?_
    rintro e w5 ⟨rfl, k5⟩
    have H5 := Lib.hid (H4.out.trans' k5)
    clear k5
    cases t with
    | true =>
      have hr := HN.out.2.2.2 rfl
      go_wp2_with (fail)
      refine (escape_any (a ++ b) w5 (by simp; omega)).mono ?_
      rintro e w6 ⟨rfl, k6⟩
      have H6 := Lib.hid (H5.out.trans' k6)
      clear k6
      go_wp2
      go_ret
      exact ⟨rfl, H6.out⟩
    | false =>
      go_wp2
      go_ret
      exact ⟨rfl, H5.out⟩
end Go.Proofs.YthooohempokchaaDoor
