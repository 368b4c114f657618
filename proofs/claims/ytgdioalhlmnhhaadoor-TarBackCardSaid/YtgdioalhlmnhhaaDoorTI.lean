/- Walks and lemmas on the program of this seat, used by its statements; each theorem bears its own conditions. -/
import Derived.Test.YtgdioalhlmnhhaaDoorTH
import Derived.Test.YtgdioalhlmnhhaaDoorTG
import Derived.Lib.IndexBytes
import Derived.Handy
namespace Go.Proofs.YtgdioalhlmnhhaaDoor
open Go.RowKit
set_option linter.unusedVariables false
set_option linter.unusedSimpArgs false
/-! ### Write -/
theorem countZ (l : List UInt8) : (Lib.countByte l 0 : Int) = (l.length : Int) ↔ TX.zerosB l = true := by
  unfold Lib.countByte TX.zerosB
  rw [List.all_eq_true]
  have h := List.count_eq_length (a := (0 : UInt8)) (l := l)
  constructor
  · intro e x hx
    have := h.1 (by omega) x hx
    rw [← this]; rfl
  · intro e
    have := h.2 fun b hb => by
      have := e b hb
      simpa using (beq_iff_eq.1 this).symm
    omega
theorem count_at (l : List UInt8) (w : World) : Calls Tryd.prog 52 #[S l, S [0]] w fun e w' => e = .returned (I (Lib.countByte l 0 : Nat)) ∧ w = w' :=
  (Tryd.strings_Count_one ⟨l.toArray⟩ 0 w).mono fun e w' ⟨h1, h2⟩ => ⟨h1, h2.symm⟩
abbrev VW (x : TX.WR) : Value := .tuple #[I x.n, S x.d, I x.e]
theorem wf_err (r : TX.Rd) (s : List UInt8) (h : ¬ r.e = 0) : TX.writeF r s = ⟨0, [], r.e, r⟩ := by unfold TX.writeF; rw [if_pos h]
theorem wf_none (r : TX.Rd) (s : List UInt8) (h : r.e = 0) (h2 : TX.doneB r = true ∨ s = []) : TX.writeF r s = ⟨0, [], 0, r⟩ := by unfold TX.writeF; rw [if_neg (by simpa using h), if_pos h2]
theorem wf_data (r : TX.Rd) (s : List UInt8) (h : r.e = 0) (h2 : ¬ (TX.doneB r = true ∨ s = [])) (h3 : 0 < r.lf) (n : Nat) (hn : min s.length r.lf.toNat = n) : TX.writeF r s = ⟨n, s.take n, 0, { r with lf := r.lf - n }⟩ := by
  unfold TX.writeF; rw [if_neg (by simpa using h), if_neg h2, if_pos h3]; simp only [hn]
theorem wf_yes (r : TX.Rd) (s : List UInt8) (h : r.e = 0) (h2 : ¬ (TX.doneB r = true ∨ s = [])) (h3 : ¬ 0 < r.lf) (h4 : 0 < r.fl) (n : Nat) (hn : min s.length r.fl.toNat = n) (hz : TX.zerosB (s.take n) = true) : TX.writeF r s = ⟨n, [], 0, { r with fl := r.fl - n }⟩ := by
  unfold TX.writeF; rw [if_neg (by simpa using h), if_neg h2, if_neg h3, if_pos h4]; simp only [hn, hz, if_true]
theorem wf_no (r : TX.Rd) (s : List UInt8) (h : r.e = 0) (h2 : ¬ (TX.doneB r = true ∨ s = [])) (h3 : ¬ 0 < r.lf) (h4 : 0 < r.fl) (n : Nat) (hn : min s.length r.fl.toNat = n) (hz : TX.zerosB (s.take n) = false) : TX.writeF r s = ⟨0, [], 200, { r with fl := r.fl - n, e := 200 }⟩ := by
  unfold TX.writeF; rw [if_neg (by simpa using h), if_neg h2, if_neg h3, if_pos h4]; simp only [hn, hz, Bool.false_eq_true, if_false]
theorem wf_head (r : TX.Rd) (s : List UInt8) (h : r.e = 0) (h2 : ¬ (TX.doneB r = true ∨ s = [])) (h3 : ¬ 0 < r.lf) (h4 : ¬ 0 < r.fl) : TX.writeF r s = ⟨(TX.headsF r s).n, [], (TX.headsF r s).e, { (TX.headsF r s).r with e := (TX.headsF r s).e }⟩ := by
  unfold TX.writeF; rw [if_neg (by simpa using h), if_neg h2, if_neg h3, if_neg h4]
theorem write_any (b : Nat) (r : TX.Rd) (s : List UInt8) (w : World) (h : RdAt w b r) (hr : TX.OkR r) (hM : ML w) (hs : s.length ≤ 4611686018427387904) :
    Calls Tryd.prog 23 #[Ptr b, S s] w fun e w' => e = .returned (VW (TX.writeF r s)) ∧ RdAt w' b (TX.writeF r s).r ∧ Kept [b] w w' := by
  obtain ⟨c0, c1, c2, c3, c4, c5, c6, c7⟩ := h.cells
  obtain ⟨f0, f1, f2, f3, f4, f5, f6, f7⟩ := h.free
  have HH := Lib.hid (And.intro h (And.intro hr hM))
  obtain ⟨hl0, hl1⟩ := hr.lf
  obtain ⟨hf0, hf1⟩ := hr.fl
  have hs' : (s.length : Int) ≤ 4611686018427387904 := by omega
  have HS := Lib.hid hs
  clear h hr hM hs
  by_cases h1 : r.e = 0
  case neg =>
    have HQ := Lib.hid (wf_err r s h1)
    go_enter Tryd.func23, Tryd.ntmps23
    go_wp2_with (fail)
    go_region
    go_wp2
    go_returns
    rw [HQ.out]
    exact ⟨rfl, HH.out.1, (Kept.refl _ _).drew⟩
  obtain ⟨d, hd⟩ : ∃ d, TX.doneB r = d := ⟨_, rfl⟩
  have HD := Lib.hid hd
  clear hd
  by_cases h2 : TX.doneB r = true ∨ s = []
  · have HQ := Lib.hid (wf_none r s h1 h2)
    rw [HD.out] at h2
    rcases Decidable.em (d = true) with hdt | hdf
    · subst hdt
      clear h2
      go_enter Tryd.func23, Tryd.ntmps23
      go_wp2_with (fail)
      refine (done_any b r w HH.out.1).mono ?_
      rintro e w1 ⟨rfl, rfl⟩
      rw [HD.out]
      go_wp2
      go_returns
      rw [HQ.out]
      exact ⟨rfl, HH.out.1, Kept.refl _ _⟩
    · have hs0 : s = [] := by rcases h2 with h2 | h2; exact absurd h2 hdf; exact h2
      have hdd : d = false := by simpa using hdf
      subst hs0
      subst hdd
      clear h2 hdf
      go_enter Tryd.func23, Tryd.ntmps23
      go_wp2_with (fail)
      refine (done_any b r w HH.out.1).mono ?_
      rintro e w1 ⟨rfl, rfl⟩
      rw [HD.out]
      go_wp2
      go_returns
      rw [HQ.out]
      exact ⟨rfl, HH.out.1, Kept.refl _ _⟩
  have hdd : d = false := by cases d with | false => rfl | true => exact absurd (.inl HD.out) h2
  have hse : s.isEmpty = false := by cases s with | nil => exact absurd (.inr rfl) h2 | cons _ _ => rfl
  subst hdd
  by_cases h3 : 0 < r.lf
  · obtain ⟨n, hn⟩ : ∃ n, min s.length r.lf.toNat = n := ⟨_, rfl⟩
    have HQ := Lib.hid (wf_data r s h1 h2 h3 n hn)
    have hmin : min (s.length : Int) r.lf = (n : Int) := by omega
    have hns : (n : Int) ≤ s.length := by omega
    have hnl : (n : Int) ≤ r.lf := by omega
    clear hn h2
    go_enter Tryd.func23, Tryd.ntmps23
    go_wp2_with (fail)
    refine (done_any b r w HH.out.1).mono ?_
    rintro e w1 ⟨rfl, rfl⟩
    rw [HD.out]
    go_wp2_with (fail)
    go_region
    go_wp2
    go_returns
    rw [HQ.out]
    exact ⟨rfl, HH.out.1.set3 _, ((Kept.refl [b] _).setCell (.inl (by simp)) _).drew⟩
  · by_cases h4 : 0 < r.fl
    · obtain ⟨n, hn⟩ : ∃ n, min s.length r.fl.toNat = n := ⟨_, rfl⟩
      have hmin : min (s.length : Int) r.fl = (n : Int) := by omega
      have hns : (n : Int) ≤ s.length := by omega
      have hnl : (n : Int) ≤ r.fl := by omega
      have hcz := countZ (s.take n)
      have hlen : ((s.take n).length : Int) = n := by simp; omega
      rw [hlen] at hcz
      have HC := Lib.hid hcz
      obtain ⟨k, hk⟩ : ∃ k : Nat, Lib.countByte (s.take n) 0 = k := ⟨_, rfl⟩
      rw [hk] at HC
      have HK := Lib.hid hk
      clear hcz hk hlen
      by_cases hz : TX.zerosB (s.take n) = true
      · have HQ := Lib.hid (wf_yes r s h1 h2 h3 h4 n hn hz)
        have hkn : (k : Int) = n := HC.out.2 hz
        clear hn h2 hz
        go_enter Tryd.func23, Tryd.ntmps23
        go_wp2_with (fail)
        refine (done_any b r w HH.out.1).mono ?_
        rintro e w1 ⟨rfl, rfl⟩
        rw [HD.out]
        go_wp2_with (fail)
        refine (count_at (s.take n) _).mono ?_
        rintro e w2 ⟨rfl, rfl⟩
        rw [HK.out]
        go_wp2
        go_returns
        rw [HQ.out]
        exact ⟨rfl, HH.out.1.set4 _, (Kept.refl [b] _).setCell (.inl (by simp)) _⟩
      · have HQ := Lib.hid (wf_no r s h1 h2 h3 h4 n hn (by simpa using hz))
        have hkn : ¬ (k : Int) = n := fun e => hz (HC.out.1 e)
        clear hn h2 hz
        go_enter Tryd.func23, Tryd.ntmps23
        go_wp2_with (fail)
        refine (done_any b r w HH.out.1).mono ?_
        rintro e w1 ⟨rfl, rfl⟩
        rw [HD.out]
        go_wp2_with (fail)
        refine (count_at (s.take n) _).mono ?_
        rintro e w2 ⟨rfl, rfl⟩
        rw [HK.out]
        go_wp2_with (fail)
        go_region
        go_wp2
        go_returns
        rw [HQ.out]
        exact ⟨rfl, (HH.out.1.set4 _).set7 200, (((Kept.refl [b] _).setCell (.inl (by simp)) _).setCell (.inl (by simp)) _).drew⟩
    · have HQ := Lib.hid (wf_head r s h1 h2 h3 h4)
      clear h2
      go_enter Tryd.func23, Tryd.ntmps23
      go_wp2_with (fail)
      refine (done_any b r w HH.out.1).mono ?_
      rintro e w1 ⟨rfl, rfl⟩
      rw [HD.out]
      go_wp2_with (fail)
      refine (heads_any b r s _ HH.out.1 HH.out.2.1 HH.out.2.2 HS.out).mono ?_
      obtain ⟨x, hx⟩ : ∃ x, TX.headsF r s = x := ⟨_, rfl⟩
      rw [hx] at HQ ⊢
      rintro e w2 ⟨rfl, r2, k2⟩
      have H2 := Lib.hid (And.intro r2 k2)
      clear c0 c1 c2 c3 c4 c5 c6 c7 f0 f1 f2 f3 f4 f5 f6 f7 hx k2
      obtain ⟨c0, c1, c2, c3, c4, c5, c6, c7⟩ := r2.cells
      obtain ⟨f0, f1, f2, f3, f4, f5, f6, f7⟩ := r2.free
      clear r2
      go_wp2
      go_returns
      rw [HQ.out]
      exact ⟨rfl, H2.out.1.set7 _, H2.out.2.setCell (.inl (by simp)) _⟩
end Go.Proofs.YtgdioalhlmnhhaaDoor
