/- Walks and lemmas on the program of this seat, used by its statements; each theorem bears its own conditions. -/
import Derived.Test.YthooohempokchaaDoorLawB
namespace Go.Proofs.YthooohempokchaaDoor
open Go.RowKit
set_option linter.unusedVariables false
set_option linter.unusedSimpArgs false
/-! ### The reference's Name -/
theorem rrune_at (l : List UInt8) (p r m : Nat) (w : World) (h : runeF (l.drop p) = (r, m)) (hp : p < l.length) (hl : l.length ≤ 4611686018427387904) :
    Calls Tryd.prog 25 #[S l, I p] w fun e w' => e = .returned (.tuple #[I r, I m]) ∧ Kept [] w w' := by
  have := rrune_any l p w hp hl; rw [h] at this; exact this
theorem rplain_at (n : Nat) (b : Bool) (w : World) (h : WX.plainN n = b) : Calls Tryd.prog 27 #[I n] w fun e w' => e = .returned (.bool b) ∧ w = w' := h ▸ rplain_any n w
theorem nameU_unit (l : List UInt8) : WX.nameU (WX.unit1 l) = (WX.isOk l && WX.plainN (WX.dec l).1 && (WX.dec l).1 != 47) := by
  unfold WX.unit1 WX.nameU
  cases WX.isOk l <;> simp
set_option maxHeartbeats 2000000 in
theorem rname_any (l : List UInt8) (w : World) (hl : l.length ≤ 4611686018427387904) :
    Calls Tryd.prog 14 #[S l] w fun e w' => e = .returned (.bool (WX.nameB l)) ∧ Kept [] w w' := by
  have hl' : (l.length : Int) ≤ 4611686018427387904 := by omega
  by_cases c1 : l = []
  · subst c1
    have hr := Lib.hid (nameB_no (l := []) (.inl rfl))
    go_enter Tryd.func14, Tryd.ntmps14
    go_wp2
    go_ret
    exact ⟨ret_B hr.out.symm, Kept.refl _ _⟩
  have hpos : (1 : Int) ≤ l.length := by have := List.length_pos_iff.2 c1; omega
  by_cases c2 : 24 < l.length
  · have hr := Lib.hid (nameB_no (.inr (.inl c2)))
    have c2' : (24 : Int) < l.length := by omega
    have C1 := Lib.hid c1
    clear c1
    go_enter Tryd.func14, Tryd.ntmps14
    go_wp2
    go_ret
    exact ⟨ret_B hr.out.symm, Kept.refl _ _⟩
  have c2' : ¬ (24 : Int) < l.length := by omega
  by_cases c3 : l = [46]
  · subst c3
    have hr := Lib.hid (nameB_no (l := [46]) (.inr (.inr (.inl rfl))))
    go_enter Tryd.func14, Tryd.ntmps14
    go_wp2
    go_ret
    exact ⟨ret_B hr.out.symm, Kept.refl _ _⟩
  have e3 : (l == [46]) = false := by simpa using c3
  by_cases c4 : l = [46, 46]
  · subst c4
    have hr := Lib.hid (nameB_no (l := [46, 46]) (.inr (.inr (.inr (.inl rfl)))))
    go_enter Tryd.func14, Tryd.ntmps14
    go_wp2
    go_ret
    exact ⟨ret_B hr.out.symm, Kept.refl _ _⟩
  have e4 : (l == [46, 46]) = false := by simpa using c4
  have hgo := Lib.hid (nameB_go c1 (by omega) c3 c4)
  clear c1 c2 c3 c4
  go_enter Tryd.func14, Tryd.ntmps14
  go_wp2_with (fail)
  go_loopw [3, 4, 5] (fun a _ _ wr => ∃ p : Nat, p ≤ l.length ∧ a = I p ∧ (WX.units (l.drop p)).all WX.nameU = (WX.units l).all WX.nameU ∧ Kept [] w wr) (fun a _ _ _ => l.length - (intOf a).toNat)
  case atStart => exact ⟨0, by omega, rfl, rfl, Kept.refl _ _⟩
  case round =>
    obtain ⟨p, hp, rfl, hu, hk⟩ := hrel
    have HK := Lib.hid (And.intro hu hk)
    clear hu hk
    by_cases hlt : p < l.length
    · have hlt' : (p : Int) < l.length := by omega
      have hne := drop_ne hlt
      have hw := WX.dec_width _ hne
      rw [List.length_drop] at hw
      have hall := WX.units_all _ hne WX.nameU
      rw [List.drop_drop, nameU_unit] at hall
      cases ho : WX.isOk (l.drop p) with
      | false =>
        have hr := runeF_no ho
        rw [ho] at hall
        have HA := Lib.hid (And.intro hall hr)
        clear ho hr hall hw hne
        go_wp2_with (fail)
        refine (rrune_at l p 0 0 wr HA.out.2 hlt hl).mono ?_
        rintro e w1 ⟨rfl, k1⟩
        go_wp2
        go_ret
        refine ⟨ret_B ?_, HK.out.2.trans' k1⟩
        rw [hgo.out, ← HK.out.1, HA.out.1]; rfl
      | true =>
        have hr := runeF_ok ho
        rw [ho, Bool.true_and] at hall
        generalize hd : WX.dec (l.drop p) = d at *
        obtain ⟨r, m⟩ := d
        simp only at hw hall
        have h0 : ((m : Int) == 0) = false := by simp; omega
        have hm : (p : Int) + m ≤ l.length := by omega
        have HA := Lib.hid (And.intro hall hr)
        have HW := Lib.hid hw
        clear ho hr hall hw hne hd
        cases hpl : WX.plainN r with
        | false =>
          have HP := Lib.hid hpl
          clear hpl
          go_wp2_with (fail)
          refine (rrune_at l p r m wr HA.out.2 hlt hl).mono ?_
          rintro e w1 ⟨rfl, k1⟩
          go_wp2_with (fail)
          refine (rplain_at r false _ HP.out).mono ?_
          rintro e w2 ⟨rfl, rfl⟩
          go_wp2
          go_ret
          refine ⟨ret_B ?_, HK.out.2.trans' k1⟩
          rw [hgo.out, ← HK.out.1, HA.out.1, HP.out]; rfl
        | true =>
          have HP := Lib.hid hpl
          clear hpl
          cases h47 : ((r : Int) == 47) with
          | true =>
            go_wp2_with (fail)
            refine (rrune_at l p r m wr HA.out.2 hlt hl).mono ?_
            rintro e w1 ⟨rfl, k1⟩
            go_wp2_with (fail)
            refine (rplain_at r true _ HP.out).mono ?_
            rintro e w2 ⟨rfl, rfl⟩
            go_wp2
            go_ret
            refine ⟨ret_B ?_, HK.out.2.trans' k1⟩
            have : r = 47 := by simp at h47; omega
            rw [hgo.out, ← HK.out.1, HA.out.1, HP.out, this]; rfl
          | false =>
            go_wp2_with (fail)
            refine (rrune_at l p r m wr HA.out.2 hlt hl).mono ?_
            rintro e w1 ⟨rfl, k1⟩
            go_wp2_with (fail)
            refine (rplain_at r true _ HP.out).mono ?_
            rintro e w2 ⟨rfl, rfl⟩
            go_wp2
            go_roundw
            case rel =>
              have hr47 : r ≠ 47 := by simp at h47; omega
              refine ⟨p + m, by have := HW.out; omega, by go_num, ?_, HK.out.2.trans' k1⟩
              rw [← HK.out.1, HA.out.1, HP.out]; simp [hr47]
            case measure => have := HW.out; simp [intOf]; omega
    · obtain rfl : p = l.length := by omega
      go_wp2
      go_ret
      refine ⟨ret_B ?_, HK.out.2⟩
      rw [hgo.out, ← HK.out.1, List.drop_length]; rfl
theorem rname_at (l : List UInt8) (b : Bool) (w : World) (h : WX.nameB l = b) (hl : l.length ≤ 4611686018427387904) :
    Calls Tryd.prog 14 #[S l] w fun e w' => e = .returned (.bool b) ∧ Kept [] w w' := h ▸ rname_any l w hl
theorem rtext_at (l : List UInt8) (b : Bool) (w : World) (h : WX.textB l = b) (hl : l.length ≤ 4611686018427387904) :
    Calls Tryd.prog 12 #[S l] w fun e w' => e = .returned (.bool b) ∧ Kept [] w w' := h ▸ rtext_any l w hl
set_option maxHeartbeats 1000000 in
theorem textsLaw_any (l : List UInt8) (w : World) (hl : l.length ≤ 4611686018427387904) (hT : Tabs w) :
    Calls Tryd.prog 3 #[S l] w fun e w' => e = .returned (.bool true) ∧ Kept [] w w' := by
  have HT := Lib.hid hT
  clear hT
  obtain ⟨t, ht⟩ : ∃ t, WX.textB l = t := ⟨_, rfl⟩
  obtain ⟨n, hn⟩ : ∃ n, WX.nameB l = n := ⟨_, rfl⟩
  have HH := Lib.hid (And.intro ht hn)
  have e1 : (t == t) = true := by simp
  have e2 : (n == n) = true := by simp
  clear ht hn
  go_enter Tryd.func3, Tryd.ntmps3
  go_wp2_with (fail)
  refine (fixed_any w HT.out).mono ?_
  rintro e w1 ⟨rfl, k1⟩
  have H1 := Lib.hid k1
  clear k1
  go_wp2_with (fail)
  refine (text_at l t w1 HH.out.1 (by omega) (HT.out.kept H1.out)).mono ?_
  rintro e w2 ⟨rfl, k2⟩
  have H2 := Lib.hid (H1.out.trans' k2)
  clear k2
  go_wp2_with (fail)
  refine (rtext_at l t w2 HH.out.1 hl).mono ?_
  rintro e w3 ⟨rfl, k3⟩
  have H3 := Lib.hid (H2.out.trans' k3)
  clear k3
  go_wp2_with (fail)
  refine (name_at l n w3 HH.out.2 hl (HT.out.kept H3.out)).mono ?_
  rintro e w4 ⟨rfl, k4⟩
  have H4 := Lib.hid (H3.out.trans' k4)
  clear k4
  go_wp2_with (fail)
  refine (rname_at l n w4 HH.out.2 hl).mono ?_
  rintro e w5 ⟨rfl, k5⟩
  have H5 := Lib.hid (H4.out.trans' k5)
  clear k5
  go_wp2
  go_ret
  exact ⟨rfl, H5.out⟩
/-! ### The reference's Join and Path -/
def slashed (ns : List (List UInt8)) : List UInt8 := ns.flatMap (47 :: ·)
theorem slashed_snoc (ns : List (List UInt8)) (x : List UInt8) : slashed (ns ++ [x]) = slashed ns ++ (47 :: x) := by simp [slashed]
theorem slashed_inter (ns : List (List UInt8)) (h : ns ≠ []) : slashed ns = 47 :: [47].intercalate ns := by
  induction ns with
  | nil => exact absurd rfl h
  | cons n r ih =>
    cases r with
    | nil => simp [slashed, List.intercalate, List.intersperse]
    | cons m r =>
      have := ih (by simp)
      simp [slashed, List.intercalate, List.intersperse] at this ⊢
      exact this
theorem slashed_len (ns : List (List UInt8)) (h : ∀ n ∈ ns, n.length ≤ 24) : (slashed ns).length ≤ 25 * ns.length := by
  induction ns with
  | nil => simp [slashed]
  | cons n r ih =>
    have h1 := ih fun x hx => h x (by simp [hx])
    have h2 := h n (by simp)
    simp only [slashed, List.flatMap_cons, List.length_append, List.length_cons] at h1 ⊢
    omega
set_option maxHeartbeats 2000000 in
theorem rjoin_any (v : Value) (ns : List (List UInt8)) (w : World) (h : StrsAt w v ns) (hm : ∀ n ∈ ns, n.length ≤ 4611686018427387904) :
    Calls Tryd.prog 19 #[v] w fun e w' => e = .returned (.tuple #[S (WX.joinF ns).1, I (WX.joinF ns).2]) ∧ Kept [] w w' := by
  have HS := Lib.hid (And.intro h hm)
  obtain ⟨p, cap, rfl, h1, h2, hnn, h3⟩ := h
  clear hm
  have hx : (ns.length : Int) ≤ 140737488355328 := by omega
  by_cases h0 : ns = []
  · subst h0
    have hf : Hid (WX.joinF [] = ([47], 0)) := by unfold Hid; rfl
    clear h3
    go_enter Tryd.func19, Tryd.ntmps19
    go_wp2
    go_loop [4, 5] (fun s i => i = I 0 ∧ s = S []) (fun _ _ => 0)
    case atStart => exact ⟨rfl, rfl⟩
    case round =>
      obtain ⟨rfl, rfl⟩ := hrel
      go_wp2
      go_ret2
      exact ⟨by rw [hf.out]; rfl, Kept.refl _ _⟩
  · obtain ⟨b, o, rfl, hc⟩ := h3 h0
    have HC := Lib.hid (And.intro hc h0)
    clear h3 hc h0 hnn
    go_enter Tryd.func19, Tryd.ntmps19
    go_wp2
    go_loopw [4, 5] (fun s i wr => ∃ k : Nat, k ≤ ns.length ∧ k ≤ 8 ∧ i = I k ∧ s = S (slashed (ns.take k)) ∧ (ns.take k).all WX.nameB = true ∧ Kept [] w wr) (fun _ i _ => ns.length - (intOf i).toNat)
    case atStart => exact ⟨0, by omega, by omega, rfl, rfl, rfl, Kept.refl _ _⟩
    case round =>
      obtain ⟨k, hk, hk8, rfl, rfl, ht, hkw⟩ := hrel
      have hsl : (slashed (ns.take k)).length ≤ 200 := by
        have := slashed_len (ns.take k) fun n hn => WX.name_len (List.all_eq_true.1 ht n hn)
        rw [List.length_take] at this; omega
      by_cases hlt : k < ns.length
      · have hlt' : (k : Int) < ns.length := by omega
        by_cases h8 : 8 ≤ k
        · have h8' : (8 : Int) ≤ k := by omega
          have hf := Lib.hid (joinF_no (ns := ns) (.inl (by omega)))
          have HT := Lib.hid hkw
          clear ht hkw
          go_wp2
          go_ret2
          exact ⟨by rw [hf.out]; rfl, HT.out⟩
        · have h8' : ¬ (8 : Int) ≤ k := by omega
          have x1 := hkw.cellOf (HC.out.1 k hlt)
          have HT := Lib.hid (And.intro ht hkw)
          clear ht hkw
          obtain ⟨x, hx1⟩ : ∃ x, ns.getD k [] = x := ⟨_, rfl⟩
          rw [hx1] at x1
          have HX := Lib.hid hx1
          have hxl : x.length ≤ 4611686018427387904 := by rw [← hx1, getD_eq _ _ _ hlt]; exact HS.out.2 _ (List.getElem_mem hlt)
          clear hx1
          cases hb : WX.nameB x with
          | true =>
            have hxs := WX.name_len hb
            have HB := Lib.hid hb
            clear hb
            go_wp2_with (fail)
            refine (rname_at x true wr HB.out hxl).mono ?_
            rintro e w1 ⟨rfl, k1⟩
            have x2 := k1.cellOf x1
            have K1 := Lib.hid (HT.out.2.trans' k1)
            clear k1 x1
            go_wp2
            go_roundw
            case rel =>
              refine ⟨k + 1, by omega, by omega, by go_num, ?_, ?_, K1.out⟩
              · rw [take_getD ns k [] hlt, HX.out, slashed_snoc]
              · rw [take_getD ns k [] hlt, List.all_append, HT.out.1, HX.out]
                simp [HB.out]
            case measure => simp [intOf]; omega
          | false =>
            have hf := Lib.hid (joinF_no (.inr (all_take_no hlt (by rw [HX.out]; exact hb))))
            have HB := Lib.hid hb
            clear hb
            go_wp2_with (fail)
            refine (rname_at x false wr HB.out hxl).mono ?_
            rintro e w1 ⟨rfl, k1⟩
            go_wp2
            go_ret2
            exact ⟨by rw [hf.out]; rfl, HT.out.2.trans' k1⟩
      · obtain rfl : k = ns.length := by omega
        rw [List.take_length] at ht hsl ⊢
        have hf : Hid (WX.joinF ns = (47 :: [47].intercalate ns, 0)) := by unfold Hid WX.joinF; rw [if_pos ⟨by omega, ht⟩]
        have hne : (slashed ns).isEmpty = false := by rw [slashed_inter ns HC.out.2]; rfl
        have HSL := Lib.hid (slashed_inter ns HC.out.2)
        have HT := Lib.hid (And.intro ht hkw)
        clear ht hkw
        go_wp2
        go_ret2
        refine ⟨?_, HT.out.2⟩
        rw [hf.out, ← HSL.out]; rfl
end Go.Proofs.YthooohempokchaaDoor
