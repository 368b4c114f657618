/- Walks and lemmas on the program of this seat, used by its statements; each theorem bears its own conditions. -/
import Derived.Test.YtgdioalhlmnhhaaDoorTJ
import Derived.Lib.IndexBytes
import Derived.Handy
import Derived.Laws.BitsAllLaws
namespace Go.Proofs.YtgdioalhlmnhhaaDoor
open Go.RowKit
set_option linter.unusedVariables false
set_option linter.unusedSimpArgs false
/-! ### A byte that is turned -/
@[go_sem] theorem xor_bytes (x y : UInt8) : bits .xor .u8 (x.toNat : Int) (y.toNat : Int) = ((x ^^^ y).toNat : Int) := by
  rw [u8_xor_nat _ _ x.toNat_lt y.toNat_lt, UInt8.toNat_xor]
theorem xor_ne (x y : UInt8) (h : y ≠ 0) : x ^^^ y ≠ x := by
  intro e
  apply h
  have : x ^^^ (x ^^^ y) = x ^^^ x := by rw [e]
  rw [← UInt8.xor_assoc, UInt8.xor_self, UInt8.zero_xor] at this
  exact this
theorem byteAt_set_ne (l : List UInt8) (k i : Nat) (c : UInt8) (h : i ≠ k) : byteAt (l.set k c) i = byteAt l i := by
  unfold byteAt
  rw [List.getD_eq_getElem?_getD, List.getD_eq_getElem?_getD, List.getElem?_set_ne (by omega)]
theorem byteAt_set_eq (l : List UInt8) (k : Nat) (c : UInt8) (h : k < l.length) : byteAt (l.set k c) k = c := by
  unfold byteAt
  rw [List.getD_eq_getElem?_getD, List.getElem?_set_self h]; rfl
theorem turned_end (name : List UInt8) (n : Int) (hok : TX.okHead name n = true) (k : Nat) (hk : k < 512) (c : UInt8) : (TX.parseL ((TX.headL name n.toNat).set k c)).en = false := by
  cases he : (TX.parseL ((TX.headL name n.toNat).set k c)).en with
  | false => rfl
  | true =>
    exfalso
    have h := TX.parse_end _ he
    simp only [TX.okHead, decide_eq_true_eq] at hok
    obtain ⟨h1, h2, h3, h4⟩ := hok
    have hne : name ≠ [] := by intro e; subst e; simp at h1
    by_cases h0 : k = 0
    · have h5 : byteAt ((TX.headL name n.toNat).set k c) 148 = 0 := by rw [h, TX.zeros_at]
      rw [byteAt_set_ne _ _ _ _ (by omega)] at h5
      have h6 : byteAt (((TX.headL name n.toNat).drop 148).take 8) 0 = 0 := by
        rw [← h5]
        unfold byteAt
        rw [List.getD_eq_getElem?_getD, List.getD_eq_getElem?_getD, List.getElem?_take_of_lt (by omega), List.getElem?_drop]
      rw [TX.headL_chk name _ h2] at h6
      unfold TX.chkOf at h6
      rw [TX.byteAt_app_l _ _ _ (by rw [TX.octL_len]; omega)] at h6
      have h7 := TX.octL_all (TX.sumTo (TX.headW name n.toNat (TX.zeros 8)) 512) 6
      have h8 := List.all_eq_true.1 h7 (byteAt (TX.octL (TX.sumTo (TX.headW name n.toNat (TX.zeros 8)) 512) 6) 0) (by
        rw [byteAt_eq _ 0 (by rw [TX.octL_len]; omega)]; exact List.getElem_mem _)
      rw [h6] at h8
      exact absurd h8 (by decide)
    · have h5 : byteAt ((TX.headL name n.toNat).set k c) 0 = 0 := by rw [h, TX.zeros_at]
      rw [byteAt_set_ne _ _ _ _ (by omega), TX.headL_first name _ hne] at h5
      cases name with
      | nil => exact hne rfl
      | cons x t => exact h3 x (by simp) h5
theorem c8_set (l : List UInt8) (k : Nat) (c : UInt8) (h : ¬ (148 ≤ k ∧ k < 156)) : c8 (l.set k c) = c8 l := by
  apply List.ext_getElem?
  intro i
  unfold c8
  rw [List.getElem?_drop, List.getElem?_drop]
  by_cases hi : 148 + i < 156
  · rw [List.getElem?_take_of_lt hi, List.getElem?_take_of_lt hi, List.getElem?_set_ne (by omega)]
  · rw [List.getElem?_eq_none (by simp; omega), List.getElem?_eq_none (by simp; omega)]
theorem turned_sum (name : List UInt8) (n : Int) (hok : TX.okHead name n = true) (k : Nat) (hk : k < 512) (t : UInt8) (ht : t ≠ 0) (hin : ¬ (148 ≤ k ∧ k < 156)) :
    TX.parseL ((TX.headL name n.toNat).set k (byteAt (TX.headL name n.toNat) k ^^^ t)) = ⟨[], 0, false, 201⟩ := by
  have hen := turned_end name n hok k hk (byteAt (TX.headL name n.toNat) k ^^^ t)
  have hok2 := hok
  simp only [TX.okHead, decide_eq_true_eq] at hok2
  have hl := TX.headL_len name n.toNat hok2.2.1
  refine parse_sum _ (by rw [List.length_set]; exact hl) (fun e => by rw [e, TX.parse_zeros] at hen; cases hen) ?_
  rw [c8_set _ _ _ hin, ← c8_eq, TX.headL_numSum name _ hok2.2.1]
  intro e
  injection e with e
  refine TX.sumTo_turn _ _ k hin ?_ (fun i hi => (byteAt_set_ne _ _ _ _ hi).symm) 512 hk e
  rw [byteAt_set_eq _ _ _ (by rw [hl]; exact hk)]
  exact fun h => xor_ne _ _ ht h.symm
set_option maxRecDepth 100000 in
theorem conv_cells {w : World} {b : Nat} {l : List UInt8} (h : ∀ i, i < l.length → w.cell? ⟨b, i, none⟩ = some (B (byteAt l i))) (c : Nat) : (convert 31 9 (.slice (some ⟨b, 0, none⟩) l.length c)).run Tryd.prog w = .ok (S l) w := by
  have hr := run_convert_bytes_arg (P := Tryd.prog) w 31 5 Tryd.underlying31 Tryd.underlying5 b 0 l.length c (l.map fun c => (c.toNat : Int)) (by simp) (fun i hi => by
    rw [Nat.zero_add, h i (by simpa using hi), byteAt_eq l i (by simpa using hi)]
    have hi' : i < l.length := by simpa using hi
    simp [List.getD, hi']) 9 Tryd.underlying9
  rw [hr]
  have : strOfNums (l.map fun c => (c.toNat : Int)) = ⟨l.toArray⟩ := by
    unfold strOfNums; rw [List.map_map]; congr 1
    have : l.map ((fun n : Int => UInt8.ofNat n.toNat) ∘ fun c : UInt8 => (c.toNat : Int)) = l := by
      conv => rhs; rw [← List.map_id l]
      apply List.map_congr_left; intro x _; simp
    rw [this]
  rw [this]
set_option maxHeartbeats 4000000
set_option maxRecDepth 100000
theorem turned_any (name : List UInt8) (n a : Int) (t : UInt8) (w : World) (hM : ML w) :
    Calls Tryd.prog 4 #[.agg #[S name, I n, I a, B t]] w fun e w' => e = .returned (.bool true) ∧ Kept [] w w' := by
  have HM := Lib.hid hM
  clear hM
  go_enter Tryd.func4, Tryd.ntmps4
  go_upto_region 2 with (fail)
  go_region
  go_wp2_with (fail)
  refine (head_any name n _).mono ?_
  rintro e w1 ⟨rfl, k1⟩
  have H1 : Hid (Kept [] w w1) := Lib.hid ((((Kept.refl [] w).alloc _).drew).trans' k1)
  clear k1
  by_cases hgo : TX.okHead name n = true ∧ ¬ 1048576 < n ∧ t ≠ 0
  case neg =>
    go_wp2_with (fail)
    refine (fixed_any w1 (HM.out.kept H1.out)).mono ?_
    rintro e w2 ⟨rfl, k2⟩
    have H2 := Lib.hid (H1.out.trans' k2)
    clear k2
    have hph : (∃ e, ¬ e = 0 ∧ TX.headF name n = ([], e)) ∨ (t = 0 ∧ ∃ h : List UInt8, h.length = 512 ∧ TX.headF name n = (h, 0)) := by
      unfold TX.headF
      by_cases a1 : TX.okHead name n = true
      · by_cases a2 : 1048576 < n
        · left; exact ⟨202, by omega, by rw [a1]; simp [a2]⟩
        · right
          refine ⟨?_, TX.headL name n.toNat, TX.headL_len _ _ ?_, by rw [a1]; simp [a2]⟩
          · by_cases a3 : t = 0
            · exact a3
            · exact absurd ⟨a1, by simpa using a2, a3⟩ hgo
          · simp only [TX.okHead, decide_eq_true_eq] at a1; exact a1.2.1
      · left; exact ⟨200, by omega, by simp [a1]⟩
    clear hgo
    rcases hph with ⟨x, hx, he⟩ | ⟨ht, h, hl, he⟩
    · rw [he]
      clear he
      go_wp2_with (fail)
      refine (fixed_any w2 (HM.out.kept H2.out)).mono ?_
      rintro e w3 ⟨rfl, k3⟩
      have H3 := Lib.hid (H2.out.trans' k3)
      clear k3
      go_wp2
      go_ret
      exact ⟨rfl, H3.out⟩
    · rw [he]
      subst ht
      clear he
      go_wp2_with (fail)
      refine (fixed_any w2 (HM.out.kept H2.out)).mono ?_
      rintro e w3 ⟨rfl, k3⟩
      have H3 := Lib.hid (H2.out.trans' k3)
      clear k3
      go_wp2
      go_ret
      exact ⟨rfl, H3.out⟩
  obtain ⟨hok, hn, ht⟩ := hgo
  have hph : TX.headF name n = (TX.headL name n.toNat, 0) := by unfold TX.headF; rw [hok]; simp [hn]
  have hl : (TX.headL name n.toNat).length = 512 := TX.headL_len _ _ (by simp only [TX.okHead, decide_eq_true_eq] at hok; exact hok.2.1)
  rw [hph]
  obtain ⟨h, hh⟩ : ∃ h, TX.headL name n.toNat = h := ⟨_, rfl⟩
  obtain ⟨k, hk⟩ : ∃ k : Nat, a % 512 = (k : Int) := ⟨(a % 512).toNat, by omega⟩
  have hk5 : k < 512 := by omega
  have hT1 := turned_end name n hok k hk5 (byteAt (TX.headL name n.toNat) k ^^^ t)
  have hT2 := turned_sum name n hok k hk5 t ht
  rw [hh] at hT1 hT2 hl ⊢
  have ht0 : ¬ (t.toNat : Int) = 0 := fun e => ht (UInt8.toNat.inj (by simpa using e))
  have HT := Lib.hid (And.intro hT1 (And.intro hT2 hl))
  have hl' : (h.length : Int) = 512 := by omega
  clear hT1 hT2 hl hh hph hok hn ht
  go_wp2_with (fail)
  refine (fixed_any w1 (HM.out.kept H1.out)).mono ?_
  rintro e w2 ⟨rfl, k2⟩
  have H2 := Lib.hid (H1.out.trans' k2)
  clear k2
  obtain ⟨c, X, hcb, kX, hlX, hcX, hfX⟩ := text_bytes h w2
  rw [HT.out.2.2] at hcb hcX hfX
  have hck := hcX k hk5
  have hfk := hfX k hk5
  have HX := Lib.hid (And.intro kX (And.intro hcX hfX))
  have hk6 : (k : Int) < 512 := by omega
  clear kX hcX hfX
  go_upto_region 8 with (fail)
  obtain ⟨l', hl2⟩ : ∃ l', h.set k (byteAt h k ^^^ t) = l' := ⟨_, rfl⟩
  obtain ⟨Y, hY⟩ : ∃ Y, X.setCell ⟨w2.heap.size, k, none⟩ (.int .u8 (((byteAt h k).toNat ^^^ t.toNat : Nat) : Int)) = Y := ⟨_, rfl⟩
  rw [hY]
  have hll : l'.length = 512 := by rw [← hl2, List.length_set]; exact HT.out.2.2
  have hYc : ∀ i, i < l'.length → Y.cell? ⟨w2.heap.size, i, none⟩ = some (B (byteAt l' i)) := fun i hi => by
    rw [← hY, ← hl2]
    by_cases hik : i = k
    · subst hik
      rw [World.cell?_setCell_same' _ _ _ (by rw [HX.out.2.1 i (by omega)]; rfl), byteAt_set_eq _ _ _ (by rw [HT.out.2.2]; exact hk5)]
      show _ = some (Value.int .u8 ((byteAt h i ^^^ t).toNat : Int))
      rw [UInt8.toNat_xor]
    · rw [byteAt_set_ne _ _ _ _ hik, ← HX.out.2.1 i (by omega)]
      exact World.cell?_setCell_other X _ _ _ (fun e => hik (by injection e with _ e2 _; exact e2.symm))
  have hcv := conv_cells hYc c
  rw [hll] at hcv
  have hKY : Kept [] w Y := by rw [← hY]; exact (H2.out.trans' HX.out.1).setCell (.inr H2.out.size) _
  have HY := Lib.hid hKY
  have HP : Hid ((TX.parseL l').en = false ∧ (¬ (148 ≤ k ∧ k < 156) → TX.parseL l' = ⟨[], 0, false, 201⟩)) := Lib.hid (by rw [← hl2]; exact ⟨HT.out.1, HT.out.2.1⟩)
  clear hcb hck hfk hYc hKY hY hl2
  go_wp2_with (fail)
  refine (parse_any l' Y (HM.out.kept HY.out)).mono ?_
  rintro e w4 ⟨rfl, k4⟩
  have H4 := Lib.hid (HY.out.trans' k4)
  clear k4
  obtain ⟨p, hp⟩ : ∃ p, TX.parseL l' = p := ⟨_, rfl⟩
  rw [hp] at HP ⊢
  clear hp
  by_cases hin : 148 ≤ k ∧ k < 156
  · have h5 := HP.out.1
    obtain ⟨p1, p2, p3, p4⟩ := p
    simp only at h5
    subst h5
    have i1 : (148 : Int) ≤ k := by omega
    have i2 : (k : Int) < 156 := by omega
    clear hin hk hcv
    go_wp2
    go_ret
    exact ⟨rfl, H4.out⟩
  · have h5 := HP.out.2 hin
    subst h5
    have i1 : ¬ (148 : Int) ≤ k ∨ (148 : Int) ≤ k ∧ ¬ (k : Int) < 156 := by omega
    clear hin hk hcv
    rcases i1 with i1 | ⟨i1, i2⟩ <;>
    · go_wp2
      go_ret
      exact ⟨rfl, H4.out⟩
end Go.Proofs.YtgdioalhlmnhhaaDoor
