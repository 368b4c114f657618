/- Walks and lemmas on the program of this seat, used by its statements; each theorem bears its own conditions. -/
import Derived.Test.YtgdioalhlmnhhaaDoorHS
import Derived.Handy
import Derived.Deep.CutRange
namespace Go.Proofs.YtgdioalhlmnhhaaDoor
open Go.RowKit
set_option linter.unusedVariables false
set_option linter.unusedSimpArgs false
set_option maxHeartbeats 8000000
set_option maxRecDepth 100000
/-! ### HeadCuts -/
theorem turn_errs {s : List UInt8} {h : Hd} {n e : Nat} (ht : turnF s h n = .fail e) : e = 170 ∨ e = 171 ∨ e = 172 := by
  unfold turnF at ht
  cases hc : crlf (s.drop n) with
  | none =>
    rw [hc] at ht
    simp only at ht
    injection ht with ht
    split at ht <;> omega
  | some i =>
    rw [hc] at ht
    simp only at ht
    split at ht
    · injection ht with ht; omega
    · split at ht
      · split at ht
        · injection ht with ht; omega
        · cases ht
      · split at ht
        · cases ht
        · rcases fieldF_cases ((s.drop n).take i) h (n + i + 2) with x | x | ⟨x, _⟩ <;> rw [x] at ht
          · injection ht with ht; omega
          · injection ht with ht; omega
          · cases ht
theorem run_errs {s : List UInt8} : ∀ (f : Nat) {h : Hd} {n e : Nat}, runF s f h n = .fail e → e = 170 ∨ e = 171 ∨ e = 172
  | 0, _, _, _, hr => by injection hr with hr; omega
  | f + 1, h, n, e, hr => by
    rw [runF_succ] at hr
    cases ht : turnF s h n with
    | fail x => rw [ht] at hr; injection hr with hr; subst hr; exact turn_errs ht
    | done a b => rw [ht] at hr; cases hr
    | on a b => rw [ht] at hr; exact run_errs f hr
theorem cut_ways (s : List UInt8) (k : Nat) (hk : k ≤ s.length) : (∃ h n, parseF s = .done h n ∧ ((n ≤ k ∧ parseF (s.take k) = .done h n) ∨ (k < n ∧ parseF (s.take k) = .fail 172))) ∨
    (parseF s = .fail 172 ∧ parseF (s.take k) = .fail 172) ∨ (∃ e, parseF s = .fail e ∧ (e = 170 ∨ e = 171) ∧ (parseF (s.take k) = .fail 172 ∨ parseF (s.take k) = .fail e)) := by
  have hc := parse_cut s k hk
  cases hp : parseF s with
  | on a b => exact absurd hp (runF_on _ _ _ _ _ _)
  | done h n =>
    rw [hp] at hc
    left
    refine ⟨h, n, rfl, ?_⟩
    rcases hc with ⟨h1, h2⟩ | ⟨h1, h2⟩
    · exact .inl ⟨h2 h n rfl, h1⟩
    · exact .inr ⟨h2 h n rfl, h1⟩
  | fail e =>
    rw [hp] at hc
    right
    rcases run_errs 3000 hp with he | he | he
    · right; exact ⟨e, rfl, .inl he, by rcases hc with ⟨h1, _⟩ | ⟨h1, _⟩; exact .inr h1; exact .inl h1⟩
    · right; exact ⟨e, rfl, .inr he, by rcases hc with ⟨h1, _⟩ | ⟨h1, _⟩; exact .inr h1; exact .inl h1⟩
    · left; subst he; exact ⟨rfl, by rcases hc with ⟨h1, _⟩ | ⟨h1, _⟩ <;> exact h1⟩
structure HeadAt (B : Nat) (w : World) (b : Nat) (h : Hd) (p1 : Option Addr) (q1 : Nat) (p2 : Option Addr) (q2 : Nat) : Prop where
  blk : Blk w b #[I h.st, .slice p1 h.ns.length q1, .slice p2 h.vs.length q2] HdT
  o1 : OwnT B w (.slice p1 h.ns.length q1) h.ns
  o2 : OwnT B w (.slice p2 h.vs.length q2) h.vs
theorem HeadAt.kept {B : Nat} {w w' : World} {b : Nat} {h : Hd} {p1 p2 : Option Addr} {q1 q2 : Nat} (H : HeadAt B w b h p1 q1 p2 q2) (k : Kept [] w w') : HeadAt B w' b h p1 q1 p2 q2 := ⟨H.blk.kept k (by simp), H.o1.kept k, H.o2.kept k⟩
theorem HeadAt.new {w w1 : World} {h : Hd} {p1 p2 : Option Addr} {q1 q2 : Nat} (o1 : OwnT w.heap.size w1 (.slice p1 h.ns.length q1) h.ns) (o2 : OwnT w.heap.size w1 (.slice p2 h.vs.length q2) h.vs) :
    HeadAt w.heap.size (w1.alloc (.cells #[I h.st, .slice p1 h.ns.length q1, .slice p2 h.vs.length q2] HdT)) w1.heap.size h p1 q1 p2 q2 := ⟨heap_new w1 _, o1.kept ((Kept.refl _ _).alloc _), o2.kept ((Kept.refl _ _).alloc _)⟩
theorem same_heads {B B' : Nat} {w : World} {b b' : Nat} {h : Hd} {p1 p2 p3 p4 : Option Addr} {q1 q2 q3 q4 : Nat} (H : HeadAt B w b h p1 q1 p2 q2) (H' : HeadAt B' w b' h p3 q3 p4 q4) (hf : h.ns.length ≤ 32 ∧ h.vs.length ≤ 32) :
    Calls Tryd.prog 42 #[.agg #[I h.st, .slice p1 h.ns.length q1, .slice p2 h.vs.length q2], .agg #[I h.st, .slice p3 h.ns.length q3, .slice p4 h.vs.length q4]] w fun e w' => e = .returned (.bool true) ∧ Kept [] w w' :=
  rsame_any h h _ _ _ _ w (H.o1.texts (by omega)) (H.o2.texts (by omega)) (H'.o1.texts (by omega)) (H'.o2.texts (by omega)) true (sameH_refl h)
theorem cutsLaw_any (s more : List UInt8) (t : Int) (w : World) (hs : s.length ≤ 1048576) (hm : more.length ≤ 1048576) (ht1 : -9223372036854775808 ≤ t) (ht2 : t ≤ 9223372036854775807) (hT : ML w) :
    Calls Tryd.prog 12 #[S s, S more, I t] w fun e w' => e = .returned (.bool true) ∧ Kept [] w w' := by
  have HML := Lib.hid hT
  clear hT
  have hs' : (s.length : Int) ≤ 1048576 := by omega
  have hm' : (more.length : Int) ≤ 1048576 := by omega
  by_cases hbig : s.length > 5000
  · have hbig' : (s.length : Int) > 5000 := by omega
    go_enter Tryd.func12, Tryd.ntmps12
    go_wp2_with (fail)
    refine (fixed_any w HML.out).mono ?_
    rintro e w1 ⟨rfl, k1⟩
    have K1 := Lib.hid k1
    clear k1
    go_wp2_with (fail)
    go_ret
    exact ⟨rfl, K1.out⟩
  have hbig' : ¬ (s.length : Int) > 5000 := by omega
  obtain ⟨r, hr⟩ : ∃ r, parseF s = r := ⟨_, rfl⟩
  have HR := Lib.hid hr
  have hfew := head_few s
  rw [hr] at hfew
  obtain ⟨h, hh⟩ : ∃ h, r.head = h := ⟨_, rfl⟩
  obtain ⟨m, hmm⟩ : ∃ m, r.many = m := ⟨_, rfl⟩
  obtain ⟨c, hc⟩ : ∃ c, r.err = c := ⟨_, rfl⟩
  rw [hh] at hfew
  have HF : Hid (h.ns.length ≤ 32 ∧ h.vs.length ≤ 32) := Lib.hid ⟨hfew.1, by omega⟩
  have HH := Lib.hid (And.intro hh (And.intro hmm hc))
  clear hr hh hmm hc hfew
  go_enter Tryd.func12, Tryd.ntmps12
  go_wp2_with (fail)
  refine (parse_any s w (by omega) HML.out r HR.out).mono ?_
  rintro e w1 ⟨v1, v2, rfl, o1, o2, k1⟩
  rw [HH.out.1] at o1 o2 ⊢
  rw [HH.out.2.1, HH.out.2.2]
  obtain ⟨p1, q1, rfl⟩ := o1.form
  obtain ⟨p2, q2, rfl⟩ := o2.form
  obtain ⟨A, hA⟩ : ∃ A, w1.alloc (.cells #[I h.st, .slice p1 h.ns.length q1, .slice p2 h.vs.length q2] HdT) = A := ⟨_, rfl⟩
  have HA : Hid (HeadAt w.heap.size A w1.heap.size h p1 q1 p2 q2 ∧ Kept [] w A) := Lib.hid (by rw [← hA]; exact ⟨HeadAt.new o1 o2, k1.alloc _⟩)
  clear o1 o2 k1
  go_upto_if 28 with (fail)
  clear hA
  go_cut [10] from 27 to 33 (fun v wx => ∃ k : Nat, v = I k ∧ k ≤ s.length ∧ wx = A)
  case first =>
    by_cases ht : t > 0
    · have hne : ((s.length : Int) + 1 == 0) = false := by rw [beq_eq_false_iff_ne]; omega
      have hne2 : ¬ (s.length : Int) + 1 = 0 := by omega
      go_wp2_with (fail)
      all_goals
        go_meet
        refine ⟨(t % ((s.length : Int) + 1)).toNat, ?_, ?_, rfl⟩
        · have h1 := Int.emod_nonneg t (show ((s.length : Int) + 1) ≠ 0 by omega)
          have h2 := Int.emod_lt_of_pos t (show 0 < ((s.length : Int) + 1) by omega)
          congr 1
          first | omega | (rw [Int.tmod_eq_emod_of_nonneg (by omega)]; omega)
        · have h1 := Int.emod_nonneg t (show ((s.length : Int) + 1) ≠ 0 by omega)
          have h2 := Int.emod_lt_of_pos t (show 0 < ((s.length : Int) + 1) by omega)
          omega
    · go_wp2_with (fail)
      all_goals (go_meet; exact ⟨0, rfl, by omega, rfl⟩)
  case rest =>
    obtain ⟨k, rfl, hk, hwc⟩ := hcut
    replace hwc := hwc.symm
    subst hwc
    have hk' : (k : Int) ≤ s.length := by omega
    have hways := cut_ways s k hk
    have htl : (s.take k).length ≤ 1048576 := by simp; omega
    obtain ⟨r2, hr2⟩ : ∃ r2, parseF (s.take k) = r2 := ⟨_, rfl⟩
    have HR2 := Lib.hid hr2
    have hfew2 := head_few (s.take k)
    rw [hr2] at hfew2 hways
    rw [HR.out] at hways
    obtain ⟨h2, hh⟩ : ∃ h, r2.head = h := ⟨_, rfl⟩
    obtain ⟨m2, hmm⟩ : ∃ m, r2.many = m := ⟨_, rfl⟩
    obtain ⟨c2, hc⟩ : ∃ c, r2.err = c := ⟨_, rfl⟩
    rw [hh] at hfew2
    have HF2 : Hid (h2.ns.length ≤ 32 ∧ h2.vs.length ≤ 32) := Lib.hid ⟨hfew2.1, by omega⟩
    have HH2 := Lib.hid (And.intro hh (And.intro hmm hc))
    have HWY := Lib.hid hways
    clear hr2 hh hmm hc hfew2 hways
    go_wp2_with (fail)
    refine (parse_any (s.take k) A (by omega) (HML.out.kept HA.out.2) r2 HR2.out).mono ?_
    rintro e w2 ⟨v1, v2, rfl, o1, o2, k2⟩
    rw [HH2.out.1] at o1 o2 ⊢
    rw [HH2.out.2.1, HH2.out.2.2]
    obtain ⟨p3, q3, rfl⟩ := o1.form
    obtain ⟨p4, q4, rfl⟩ := o2.form
    obtain ⟨D, hD⟩ : ∃ D, w2.alloc (.cells #[I h2.st, .slice p3 h2.ns.length q3, .slice p4 h2.vs.length q4] HdT) = D := ⟨_, rfl⟩
    have HD : Hid (HeadAt A.heap.size D w2.heap.size h2 p3 q3 p4 q4 ∧ HeadAt w.heap.size D w1.heap.size h p1 q1 p2 q2 ∧ Kept [] w D) := Lib.hid (by
      have kD : Kept [] A D := by rw [← hD]; exact k2.alloc _
      exact ⟨by rw [← hD]; exact HeadAt.new o1 o2, HA.out.1.kept kD, HA.out.2.trans' kD⟩)
    clear o1 o2 k2
    go_wp2_with (fail)
    clear hD
    refine (fixed_any D (HML.out.kept HD.out.2.2)).mono ?_
    rintro e w3 ⟨rfl, k3⟩
    have H3 : Hid (HeadAt A.heap.size w3 w2.heap.size h2 p3 q3 p4 q4 ∧ HeadAt w.heap.size w3 w1.heap.size h p1 q1 p2 q2 ∧ Kept [] w w3) := Lib.hid ⟨HD.out.1.kept k3, HD.out.2.1.kept k3, HD.out.2.2.trans' k3⟩
    clear k3
    rcases HWY.out with ⟨h0, n, e1, e2⟩ | ⟨e1, e2⟩ | ⟨x, e1, hx, e2⟩
    · have hd1 : h = h0 := by have := HH.out.1; rw [e1] at this; exact this.symm
      have hd2 : m = n := by have := HH.out.2.1; rw [e1] at this; exact this.symm
      have hd3 : c = 0 := by have := HH.out.2.2; rw [e1] at this; exact this.symm
      have HP := Lib.hid (parse_append more (show parseF s = .done h0 n by rw [HR.out, e1]))
      subst hd1 hd2 hd3
      have HE2 := Lib.hid e2
      clear e1 e2
      have hsm : (s ++ more).length < 4294967281 := by rw [List.length_append]; omega
      have HSM := Lib.hid hsm
      clear hsm
      go_wp2_with (fail)
      refine (parse_any (s ++ more) w3 HSM.out (HML.out.kept H3.out.2.2) _ HP.out).mono ?_
      rintro e w4 hp4
      obtain ⟨p5, q5, p6, q6, rfl, o1, o2, k4⟩ := @parse_at [] _ _ _ _ _ hp4
      clear hp4
      obtain ⟨E, hE⟩ : ∃ E, w4.alloc (.cells #[I h.st, .slice p5 h.ns.length q5, .slice p6 h.vs.length q6] HdT) = E := ⟨_, rfl⟩
      have HE : Hid (HeadAt w3.heap.size E w4.heap.size h p5 q5 p6 q6 ∧ HeadAt A.heap.size E w2.heap.size h2 p3 q3 p4 q4 ∧ HeadAt w.heap.size E w1.heap.size h p1 q1 p2 q2 ∧ Kept [] w E) := Lib.hid (by
        have kE : Kept [] w3 E := by rw [← hE]; exact k4.alloc _
        exact ⟨by rw [← hE]; exact HeadAt.new o1 o2, H3.out.1.kept kE, H3.out.2.1.kept kE, H3.out.2.2.trans' kE⟩)
      clear o1 o2 k4
      obtain ⟨a0, a1, a2⟩ := cells3 HE.out.1.blk
      obtain ⟨b0, b1, b2⟩ := cells3 HE.out.2.2.1.blk
      go_wp2_with (fail)
      refine (same_heads HE.out.2.2.1 HE.out.1 HF.out).mono ?_
      rintro e w5 ⟨rfl, k5⟩
      have H5 : Hid (HeadAt A.heap.size w5 w2.heap.size h2 p3 q3 p4 q4 ∧ HeadAt w.heap.size w5 w1.heap.size h p1 q1 p2 q2 ∧ Kept [] w w5) := Lib.hid ⟨HE.out.2.1.kept k5, HE.out.2.2.1.kept k5, HE.out.2.2.2.trans' k5⟩
      clear k5 a0 a1 a2 b0 b1 b2 hE
      rcases HE2.out with ⟨hkn, e2⟩ | ⟨hkn, e2⟩
      · have hd4 : h2 = h := by have := HH2.out.1; rw [e2] at this; exact this.symm
        have hd5 : m2 = m := by have := HH2.out.2.1; rw [e2] at this; exact this.symm
        have hd6 : c2 = 0 := by have := HH2.out.2.2; rw [e2] at this; exact this.symm
        have hkn' : ¬ (k : Int) < m := by omega
        have hkn2 : (k : Int) ≥ m := by omega
        subst hd4 hd5 hd6
        obtain ⟨a0, a1, a2⟩ := cells3 H5.out.1.blk
        obtain ⟨b0, b1, b2⟩ := cells3 H5.out.2.1.blk
        clear e2 hkn
        go_wp2_with (fail)
        refine (same_heads H5.out.2.1 H5.out.1 HF2.out).mono ?_
        rintro e w6 ⟨rfl, k6⟩
        have H6 := Lib.hid (H5.out.2.2.trans' k6)
        clear k6
        go_wp2_with (fail)
        go_ret
        exact ⟨rfl, H6.out⟩
      · have hd6 : c2 = 172 := by have := HH2.out.2.2; rw [e2] at this; exact this.symm
        have hkn' : (k : Int) < m := by omega
        subst hd6
        clear e2 hkn
        go_wp2_with (fail)
        go_ret
        exact ⟨rfl, H5.out.2.2⟩
    · have hd3 : c = 172 := by have := HH.out.2.2; rw [e1] at this; exact this.symm
      have hd6 : c2 = 172 := by have := HH2.out.2.2; rw [e2] at this; exact this.symm
      subst hd3 hd6
      clear e1 e2
      go_wp2_with (fail)
      go_ret
      exact ⟨rfl, H3.out.2.2⟩
    · have hd3 : c = x := by have := HH.out.2.2; rw [e1] at this; exact this.symm
      subst hd3
      rcases hx with rfl | rfl
      · rcases e2 with e2 | e2
        · have hd6 : c2 = 172 := by have := HH2.out.2.2; rw [e2] at this; exact this.symm
          subst hd6
          clear e1 e2
          go_wp2_with (fail)
          go_ret
          exact ⟨rfl, H3.out.2.2⟩
        · have hd6 : c2 = 170 := by have := HH2.out.2.2; rw [e2] at this; exact this.symm
          subst hd6
          clear e1 e2
          go_wp2_with (fail)
          go_ret
          exact ⟨rfl, H3.out.2.2⟩
      · rcases e2 with e2 | e2
        · have hd6 : c2 = 172 := by have := HH2.out.2.2; rw [e2] at this; exact this.symm
          subst hd6
          clear e1 e2
          go_wp2_with (fail)
          go_ret
          exact ⟨rfl, H3.out.2.2⟩
        · have hd6 : c2 = 171 := by have := HH2.out.2.2; rw [e2] at this; exact this.symm
          subst hd6
          clear e1 e2
          go_wp2_with (fail)
          go_ret
          exact ⟨rfl, H3.out.2.2⟩
end Go.Proofs.YtgdioalhlmnhhaaDoor
