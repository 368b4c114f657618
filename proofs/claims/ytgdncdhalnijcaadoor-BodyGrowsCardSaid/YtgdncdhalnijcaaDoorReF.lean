/- Walks and lemmas on the program of this seat, used by its statements; each theorem bears its own conditions. -/
import Derived.Test.YtgdncdhalnijcaaDoorReE
import Derived.Test.YtgdncdhalnijcaaDoorRdR
namespace Go.Proofs.YtgdncdhalnijcaaDoor
open Go.RowKit
set_option linter.unusedVariables false
set_option linter.unusedSimpArgs false
namespace BD
/-! ### The law's ends: pure -/
theorem rest_tail (s : List UInt8) : ∀ (r r' : Rd) (o : List UInt8), feeds r s = (r', o, 0) → ∃ pre t, s = pre ++ t ∧ r'.rest = r.rest ++ t := by
  induction s with
  | nil => intro r r' o h; rw [feeds_nil] at h; injection h with e1 _; subst e1; exact ⟨[], [], rfl, by simp⟩
  | cons c s ih =>
    intro r r' o hf
    by_cases h11 : r.state = 11
    · rw [feeds_done _ _ h11] at hf
      injection hf with e1 _
      subst e1
      exact ⟨[], c :: s, rfl, rfl⟩
    · simp only [feeds] at hf
      by_cases h1 : (feed r c).2.2 = 0
      · rw [if_pos h1] at hf
        by_cases h2 : (feeds (feed r c).1 s).2.2 = 0
        · rw [if_pos h2] at hf
          have e1 : (feeds (feed r c).1 s).1 = r' := (Prod.mk.inj hf).1
          obtain ⟨pre, t, h3, h4⟩ := ih (feed r c).1 (feeds (feed r c).1 s).1 (feeds (feed r c).1 s).2.1 (by rw [← h2])
          rw [rest_same _ _ h11, e1] at h4
          exact ⟨c :: pre, t, by rw [h3]; rfl, h4⟩
        · rw [if_neg h2] at hf
          injection hf with _ e2
          injection e2 with _ e4
          exact absurd e4 h2
      · rw [if_neg h1] at hf
        injection hf with _ e2
        injection e2 with _ e4
        exact absurd e4 h1
theorem rest_drop {s o : List UInt8} {r r' : Rd} (h : feeds r s = (r', o, 0)) (hr : r.rest = []) : r'.rest.length ≤ s.length ∧ r'.rest = s.drop (s.length - r'.rest.length) := by
  obtain ⟨pre, t, h1, h2⟩ := rest_tail s r r' o h
  rw [hr, List.nil_append] at h2
  rw [h2, h1]
  simp
theorem byte_ne1 (r : Rd) (c : UInt8) (h : r.state ≠ 1) : (byteF r c).1.state ≠ 1 := by
  have key : ∀ x : Rd × Int, x = byteF r c → x.1.state ≠ 1 := by
    intro x hx
    subst hx
    unfold byteF lineF beginsF isF withinF
    simp only
    repeat' (refine ite_ind (P := fun x : Rd × Int => x.1.state ≠ 1) (fun _ => ?_) (fun _ => ?_))
    all_goals first | exact h | (show (_ : Int) ≠ 1; decide) | (simp only; omega)
  exact key _ rfl
theorem feed_ne1 (r : Rd) (c : UInt8) (h : r.state ≠ 1) : (feed r c).1.state ≠ 1 := by
  have k := byte_ne1 r c h
  unfold feed
  rw [if_neg h]
  (repeat' split) <;> first | exact h | exact k | (simp only; omega)
theorem feeds_ne1 (s : List UInt8) : ∀ (r : Rd), r.state ≠ 1 → (feeds r s).1.state ≠ 1 := by
  induction s with
  | nil => intro r h; exact h
  | cons c s ih =>
    intro r h
    have h1 := feed_ne1 r c h
    have h2 := ih _ h1
    simp only [feeds]
    (repeat' split) <;> first | exact h1 | exact h2
theorem kind_start {kd sz : Int} {R : Rd} (h : KindOf kd sz R) : R.rest = [] ∧ R.e = 0 ∧ R.told = 0 ∧ R.size = sz ∧ (kd = 3 → R = rdP) ∧ (kd ≠ 3 → R.state ≠ 1) := by
  rcases h with ⟨rfl, rfl, rfl⟩ | ⟨rfl, rfl, rfl⟩ | ⟨rfl, h0, h1, rfl⟩ | ⟨rfl, rfl, rfl⟩
  · exact ⟨rfl, rfl, rfl, rfl, by omega, fun _ => by decide⟩
  · exact ⟨rfl, rfl, rfl, rfl, by omega, fun _ => by decide⟩
  · exact ⟨rfl, rfl, rfl, rfl, by omega, fun _ => by unfold rdZ; simp only; split <;> decide⟩
  · exact ⟨rfl, rfl, rfl, rfl, fun _ => rfl, fun h => absurd rfl h⟩
/-- How a reader without an error goes on behind a Close: the reader, its error, whether it ended; and behind a byte more. -/
structure EndsAs (kd : Int) (r rs rw : Rd) (g : Int) (en : Bool) : Prop where
  close : closeF r = (rs, g)
  done : doneF rs = en
  is : en = (doneF r || (kd == 3))
  ok : rs.Ok
  write : writeF rs [122] = (rw, [], g)
  g0 : g = if en = true then 0 else 182
  rest : en = true → restF rw = restF r ++ [122]
  le : rs.rest.length ≤ r.rest.length
theorem ends_as {R0 r : Rd} {kd sz : Int} {s out : List UInt8} (hk : KindOf kd sz R0) (h : feeds R0 s = (r, out, 0)) (hi : r.Inv) (hs : 0 ≤ r.state ∧ r.state ≤ 11) : ∃ rs rw g en, EndsAs kd r rs rw g en := by
  obtain ⟨h1, h2, h3, h4, h5, h6⟩ := kind_start hk
  have he : r.e = 0 := by rw [(feeds_e h).1]; exact h2
  by_cases h11 : r.state = 11
  · have hd : doneF r = true := by simp [doneF, h11, he]
    have hw : writeF r [122] = ({ r with rest := r.rest ++ [122] }, [], 0) := write_ok he (feeds_done _ _ h11)
    refine ⟨r, { r with rest := r.rest ++ [122] }, 0, true, ?_, hd, by simp [hd], inv_ok hi hs, hw, rfl, fun _ => ?_, Nat.le_refl _⟩
    · unfold closeF; rw [if_pos (.inr h11), he]
    · have hd2 : doneF { r with rest := r.rest ++ [122] } = true := hd
      unfold restF; rw [if_pos hd, if_pos hd2]
  · have hd : doneF r = false := by simp [doneF, h11]
    have hr : r.rest = [] := rest_kept0 s R0 r out h1 h h11
    by_cases h1' : r.state = 1
    · have hkd : kd = 3 := by
        apply Decidable.byContradiction
        intro hne
        have := feeds_ne1 s R0 (h6 hne)
        rw [h] at this
        exact this h1'
      have hc : closeF r = ({ r with state := 11 }, 0) := by unfold closeF; rw [if_neg (by simp [he, h11]), if_pos h1']
      have hd1 : doneF { r with state := 11 } = true := by simp [doneF, he]
      have hw : writeF { r with state := 11 } [122] = ({ r with state := 11, rest := r.rest ++ [122] }, [], 0) := write_ok (r := { r with state := 11 }) he (feeds_done _ _ rfl)
      refine ⟨{ r with state := 11 }, { r with state := 11, rest := r.rest ++ [122] }, 0, true, hc, hd1, by simp [hkd], inv_ok ?_ (by simp), hw, rfl, fun _ => ?_, Nat.le_refl _⟩
      · exact inv_mk r _ 11 rfl hi.m0 hi.m1 hi.l0 hi.l1 hi.f0 hi.f1 hi.t0 hi.t1 (by omega) (by omega) (by omega) (by omega)
      · have hd2 : doneF { r with state := 11, rest := r.rest ++ [122] } = true := hd1
        unfold restF; rw [if_pos hd2, if_neg (show ¬ doneF r = true by simp [hd]), hr]
    · have hkd : (kd == 3) = false := by
        cases hkb : (kd == 3) with
        | false => rfl
        | true =>
          exfalso
          have hk3 := h5 (by simpa using hkb)
          subst hk3
          have hop := feeds_open s rdP rfl (by decide) (by decide)
          rw [h] at hop
          split at hop
          · have : r = _ := (Prod.mk.inj hop).1
            rw [this] at h1'; exact h1' rfl
          · have := (Prod.mk.inj (Prod.mk.inj hop).2).2
            exact absurd this (by decide)
      have hc : closeF r = ({ r with e := 182 }, 182) := by unfold closeF; rw [if_neg (by simp [he, h11]), if_neg h1']
      have hd1 : doneF { r with e := 182 } = false := by simp [doneF]
      refine ⟨{ r with e := 182 }, { r with e := 182 }, 182, false, hc, hd1, by simp [hd, hkd], (fun h => absurd h (show (182 : Int) ≠ 0 by decide)), ?_, rfl, (fun h => by cases h), Nat.le_refl _⟩
      unfold writeF; rw [if_neg (show ¬ (182 : Int) = 0 by decide)]
theorem close_as (b : Nat) (r rs : Rd) (g : Int) (w : World) (h : RdAt w b r) (hc : closeF r = (rs, g)) : Calls Tryd.prog 10 #[Ptr b] w fun e w' => e = .returned (I g) ∧ RdAt w' b rs ∧ Kept [b] w w' :=
  (close_any b r w h).mono fun e w' hp => by unfold RdPost at hp; rw [hc] at hp; exact hp
theorem cells3' {w : World} {b : Nat} {x y z : Value} {t : TypeId} (h : w.heap[b]? = some (.cells #[x, y, z] t (0, 0))) : w.cell? ⟨b, 0, none⟩ = some x ∧ w.cell? ⟨b, 1, none⟩ = some y ∧ w.cell? ⟨b, 2, none⟩ = some z := by
  simp [cell_at h]
theorem told_q (b : Nat) (r : Rd) (w : World) (h : RdAt w b r) : Calls Tryd.prog 13 #[Ptr b] w fun e w' => e = .returned (I r.told) ∧ w' = w := (told_any b r w h).mono fun _ _ h => ⟨h.1, h.2.symm⟩
theorem size_q (b : Nat) (r : Rd) (w : World) (h : RdAt w b r) : Calls Tryd.prog 14 #[Ptr b] w fun e w' => e = .returned (I r.size) ∧ w' = w := (size_any b r w h).mono fun _ _ h => ⟨h.1, h.2.symm⟩
theorem rest_q (b : Nat) (r : Rd) (x : List UInt8) (hx : restF r = x) (w : World) (h : RdAt w b r) : Calls Tryd.prog 12 #[Ptr b] w fun e w' => e = .returned (S x) ∧ w' = w := by subst hx; exact (rest_any b r w h).mono fun _ _ h => ⟨h.1, h.2.symm⟩
theorem done_q (b : Nat) (r : Rd) (d : Bool) (hd : doneF r = d) (w : World) (h : RdAt w b r) : Calls Tryd.prog 11 #[Ptr b] w fun e w' => e = .returned (.bool d) ∧ w' = w := by subst hd; exact (done_any b r w h).mono fun _ _ h => ⟨h.1, h.2.symm⟩
end BD
end Go.Proofs.YtgdncdhalnijcaaDoor
