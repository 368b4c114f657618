/- Walks and lemmas on the program of this seat, used by its statements; each theorem bears its own conditions. -/
import Derived.Test.YtgdncdhalnijcaaGreatDoorMCA
import Derived.Test.YtgdncdhalnijcaaGreatDoorMRU
import Derived.Handy
import Derived.Recover
import Derived.IntWalk
import Derived.Deep.CutRange
import Derived.OwnWalk
import Derived.Deep.AppendLies
import Derived.Deep.RegionLaw
import Derived.Deep.RegionHeld3
import Derived.StillTailTactics
import Derived.RegionTactic
import Derived.ChangeAlike
namespace Go.Proofs.YtgdncdhalnijcaaGreatDoor
open Go.RowKit
set_option linter.unusedVariables false
set_option linter.unusedSimpArgs false
section
namespace CL
set_option maxHeartbeats 8000000
set_option maxRecDepth 100000
/-! ### Out -/
def outF (c : Cl) : Cl × List UInt8 := if c.state = 0 then ({ c with state := 1, began := c.got, last := c.now, head := [], body := none, skip := 0, left := -1 }, (reqF c.host c.target c.got).1) else (c, [])
set_option maxHeartbeats 4000000 in
theorem out_any (b bb : Nat) (c : Cl) (w : World) (h : ClAt w b bb c) (hd : c.Bd) (hP : PT w) (hl : c.host.length ≤ 64 ∧ c.target.length ≤ 64) :
    Calls Tryz.prog 16 #[Ptr b] w (ClPost (S (outF c).2) b bb w (outF c).1) := by
  obtain ⟨c0, c1, c2, c3, c4, c5, c6, c7, c8, c9, c10, c11, c12, c13, c14, c15, c16, c17, c18, c19, c20⟩ := (h).cells
  have hf := (h).free
  have H := Lib.hid h
  have HP := Lib.hid hP
  have g0 := hd.f0
  have g1 := hd.g0
  have g2 := hd.g1
  have g3 := hd.l1
  have HL := Lib.hid hl
  clear h hd hP hl
  go_enter Tryz.func16, Tryz.ntmps16
  by_cases hs : c.state = 0
  · have hsb : (c.state != 0) = false := by simpa using hs
    have HF : Hid (outF c = ({ c with state := 1, began := c.got, last := c.now, head := [], body := none, skip := 0, left := -1 }, (reqF c.host c.target c.got).1)) := Lib.hid (by unfold outF; rw [if_pos hs])
    obtain ⟨rq, hrq⟩ : ∃ rq, reqF c.host c.target c.got = rq := ⟨_, rfl⟩
    rw [hrq] at HF
    have HR := Lib.hid hrq
    clear hs hrq
    rw [HF.out]
    have HPd : Hid (PT w.drew) := Lib.hid HP.out
    go_upto_region 3 with (fail)
    go_cut [3] from 10 to 27 (fun v wx => v = S rq.1 ∧ ClAt wx b bb c ∧ Kept [b, bb] w wx)
    case first =>
      go_region_with ((go_at_call 25; (with_reducible refine (request_any c.host c.target c.got w.drew (by omega) (by omega) (.inr HPd.out) (by have := HL.out.1; omega) (by have := HL.out.2; omega) rq HR.out).mono ?_); rintro e w1 ⟨rfl, k1⟩; have H1 := Lib.hid (And.intro (H.out.drew.kept k1 (by simp) (by simp)) ((Kept.refl [b, bb] w).drew.trans' (k1.mono (by simp)))); clear k1))
      all_goals (go_wp2_with (fail); go_meet; exact ⟨rfl, H1.out.1, H1.out.2⟩)
    case rest =>
    obtain ⟨rfl, h1, k1⟩ := hcut
    clear c0 c1 c2 c3 c4 c5 c6 c7 c8 c9 c10 c11 c12 c13 c14 c15 c16 c17 c18 c19 c20 hf
    obtain ⟨c0, c1, c2, c3, c4, c5, c6, c7, c8, c9, c10, c11, c12, c13, c14, c15, c16, c17, c18, c19, c20⟩ := (h1).cells
    have hf := (h1).free
    have H1 := Lib.hid (And.intro h1 k1)
    clear h1 k1
    go_wp2_with (fail)
    go_region
    go_wp2_with (fail)
    go_ret
    exact ClPost.mk ((((((((H1.out.1.set7 1).set15 c.got).set16 c.now).set17 []).set18n).set19 0).set20 (-1)).drew) (((((((((H1.out.2.setCell (.inl (by simp)) _).setCell (.inl (by simp)) _).setCell (.inl (by simp)) _).setCell (.inl (by simp)) _).setCell (.inl (by simp)) _).setCell (.inl (by simp)) _).setCell (.inl (by simp)) _)).drew) rfl
  · have hsb : (c.state != 0) = true := by simpa using hs
    have HF : Hid (outF c = (c, [])) := Lib.hid (by unfold outF; rw [if_neg hs])
    clear hs
    rw [HF.out]
    go_wp2_with (fail)
    go_ret
    exact ClPost.mk H.out (Kept.refl _ _) rfl
/-! ### told -/
def told3 (c : Cl) (t : List UInt8) : Cl := { (if 0 ≤ c.left then { c with left := c.left - t.length } else c) with got := c.got + t.length }
def told2 (c : Cl) (t : List UInt8) : Cl × List UInt8 :=
  if c.limit < c.got + t.length then (failsF c 193, [])
  else if (0 ≤ c.left ∧ c.left < t.length) ∨ (0 ≤ c.total ∧ c.total < c.got + t.length) then (failsF c 192, [])
  else (told3 c t, t)
def toldF (c : Cl) (s : List UInt8) : Cl × List UInt8 := told2 { c with skip := c.skip - min c.skip s.length } (s.drop (min c.skip s.length).toNat)
set_option maxHeartbeats 4000000 in
theorem told_any (b bb : Nat) (c : Cl) (s : List UInt8) (w : World) (h : ClAt w b bb c) (hd : c.Bd) (hs : s.length ≤ 1000000000) :
    Calls Tryz.prog 33 #[Ptr b, S s] w (ClPost (S (toldF c s).2) b bb w (toldF c s).1) := by
  obtain ⟨c0, c1, c2, c3, c4, c5, c6, c7, c8, c9, c10, c11, c12, c13, c14, c15, c16, c17, c18, c19, c20⟩ := (h).cells
  have hf := (h).free
  have H := Lib.hid h
  have g1 := hd.f0
  have g2 := hd.g0
  have g3 := hd.g1
  have g4 := hd.l1
  have g5 := hd.p0
  have g6 := hd.p1
  have g7 := hd.q0
  have g8 := hd.q1
  have g9 := hd.o0
  have g10 := hd.o1
  have hsl : (s.length : Int) ≤ 1000000000 := by omega
  clear h hd hs
  obtain ⟨m, hm, hm2⟩ : ∃ m : Nat, min c.skip (s.length : Int) = (m : Int) ∧ m ≤ s.length := ⟨(min c.skip (s.length : Int)).toNat, by omega, by omega⟩
  have hmk : (m : Int) ≤ c.skip := by omega
  have hml : (m : Int) ≤ s.length := by omega
  have HF : Hid (toldF c s = told2 { c with skip := c.skip - m } (s.drop m)) := Lib.hid (by unfold toldF; rw [hm]; rfl)
  rw [HF.out]
  obtain ⟨t, ht⟩ : ∃ t, s.drop m = t := ⟨_, rfl⟩
  rw [ht]
  obtain ⟨d, hd⟩ : ∃ d, ({ c with skip := c.skip - m } : Cl) = d := ⟨_, rfl⟩
  have e1 : d.limit = c.limit ∧ d.got = c.got ∧ d.left = c.left ∧ d.total = c.total := by rw [← hd]; exact ⟨rfl, rfl, rfl, rfl⟩
  have HDD := Lib.hid (And.intro hd e1)
  rw [hd]
  clear hd e1
  have htl : (t.length : Int) ≤ 1000000000 := by rw [← ht, List.length_drop]; omega
  have h2 := H.out.set19 (c.skip - m)
  have k2 : Kept [b, bb] w (w.setCell ⟨b, 19, none⟩ (I (c.skip - m))) := (Kept.refl _ _).setCell (.inl (by simp)) _
  have hw : IntKind.i64.wrap (c.skip - (m : Int)) = c.skip - m := by rw [IntKind.wrap_i64]; omega
  go_enter Tryz.func33, Tryz.ntmps33
  go_wp2_with (fail)
  go_region
  go_wp2_with (fail)
  clear c0 c1 c2 c3 c4 c5 c6 c7 c8 c9 c10 c11 c12 c13 c14 c15 c16 c17 c18 c19 c20 hf
  replace h2 := h2.drew
  replace k2 := k2.drew
  obtain ⟨w2, hw2⟩ : ∃ w2, (w.setCell ⟨b, 19, none⟩ (I (c.skip - m))).drew = w2 := ⟨_, rfl⟩
  have hw2' : (w.setCell ⟨b, 19, none⟩ (Value.int .i64 (c.skip - m))).drew = w2 := hw2
  rw [hw2] at h2 k2
  rw [hw2']
  clear hw2 hw2' hw hm ht
  obtain ⟨hd, e1, e2, e3, e4⟩ := HDD.out
  rw [hd] at h2
  rw [← e1, ← e2] at g3
  rw [← e1] at g4
  rw [← e2] at g2
  rw [← e3] at g7 g8
  rw [← e1, ← e4] at g10
  rw [← e4] at g9
  clear e1 e2 e3 e4 hd
  obtain ⟨c0, c1, c2, c3, c4, c5, c6, c7, c8, c9, c10, c11, c12, c13, c14, c15, c16, c17, c18, c19, c20⟩ := (h2).cells
  have hf := (h2).free
  have H2 := Lib.hid (And.intro h2 k2)
  clear h2 k2
  by_cases hlim : d.limit < d.got + t.length
  · have HT : Hid (told2 d t = (failsF d 193, [])) := Lib.hid (by unfold told2; rw [if_pos hlim])
    go_quiet (fail)
    go_wp2_with (fail)
    refine (fails_any b bb d 193 _ (H2.out.1.drewN _)).mono ?_
    rintro e w3 ⟨rfl, h3, k3⟩
    go_wp2_with (fail)
    go_ret
    rw [HT.out]
    exact ClPost.mk h3 ((H2.out.2.drewN _).trans' k3) rfl
  have hlimf : decide (d.limit < d.got + t.length) = false := decide_eq_false hlim
  have HA : Hid (told2 d t = if (0 ≤ d.left ∧ d.left < t.length) ∨ (0 ≤ d.total ∧ d.total < d.got + t.length) then (failsF d 192, []) else (told3 d t, t)) := Lib.hid (by unfold told2; rw [if_neg hlim])
  go_quiet (fail)
  go_wp2_with (fail)
  have h2 : ClAt (w2.drewN nq) b bb d := H2.out.1.drewN nq
  have k2 : Kept [b, bb] w (w2.drewN nq) := H2.out.2.drewN nq
  clear c0 c1 c2 c3 c4 c5 c6 c7 c8 c9 c10 c11 c12 c13 c14 c15 c16 c17 c18 c19 c20 hf
  obtain ⟨w3, hw3⟩ : ∃ w3, w2.drewN nq = w3 := ⟨_, rfl⟩
  rw [hw3] at h2 k2 ⊢
  clear hw3
  obtain ⟨c0, c1, c2, c3, c4, c5, c6, c7, c8, c9, c10, c11, c12, c13, c14, c15, c16, c17, c18, c19, c20⟩ := (h2).cells
  have hf := (h2).free
  have H3 := Lib.hid (And.intro h2 k2)
  clear h2 k2
  have hways : (0 ≤ d.left ∧ d.left < t.length) ∨ (0 ≤ d.left ∧ ¬ d.left < t.length ∧ 0 ≤ d.total ∧ d.total < d.got + t.length) ∨ (d.left < 0 ∧ 0 ≤ d.total ∧ d.total < d.got + t.length) ∨ (0 ≤ d.left ∧ ¬ d.left < t.length ∧ d.total < 0) ∨ (0 ≤ d.left ∧ ¬ d.left < t.length ∧ 0 ≤ d.total ∧ ¬ d.total < d.got + t.length) ∨ (d.left < 0 ∧ d.total < 0) ∨ (d.left < 0 ∧ 0 ≤ d.total ∧ ¬ d.total < d.got + t.length) := by omega
  rcases hways with ⟨a1, a2⟩ | ⟨a1, a2, a3, a4⟩ | ⟨a1, a3, a4⟩ | ⟨a1, a2, a3⟩ | ⟨a1, a2, a3, a4⟩ | ⟨a1, a3⟩ | ⟨a1, a3, a4⟩
  · skip
    have HT : Hid (told2 d t = (failsF d 192, [])) := Lib.hid (by rw [HA.out, if_pos (by omega)])
    go_quiet (fail)
    go_wp2_with (fail)
    refine (fails_any b bb d 192 _ (H3.out.1.drewN _)).mono ?_
    rintro e w4 ⟨rfl, h4, k4⟩
    go_wp2_with (fail)
    go_ret
    rw [HT.out]
    exact ClPost.mk h4 ((H3.out.2.drewN _).trans' k4) rfl
  · have a2f : decide (d.left < t.length) = false := decide_eq_false a2
    have HT : Hid (told2 d t = (failsF d 192, [])) := Lib.hid (by rw [HA.out, if_pos (by omega)])
    go_quiet (fail)
    go_wp2_with (fail)
    refine (fails_any b bb d 192 _ (H3.out.1.drewN _)).mono ?_
    rintro e w4 ⟨rfl, h4, k4⟩
    go_wp2_with (fail)
    go_ret
    rw [HT.out]
    exact ClPost.mk h4 ((H3.out.2.drewN _).trans' k4) rfl
  · have a1f : decide (0 ≤ d.left) = false := decide_eq_false (by omega)
    have HT : Hid (told2 d t = (failsF d 192, [])) := Lib.hid (by rw [HA.out, if_pos (by omega)])
    go_quiet (fail)
    go_wp2_with (fail)
    refine (fails_any b bb d 192 _ (H3.out.1.drewN _)).mono ?_
    rintro e w4 ⟨rfl, h4, k4⟩
    go_wp2_with (fail)
    go_ret
    rw [HT.out]
    exact ClPost.mk h4 ((H3.out.2.drewN _).trans' k4) rfl
  · have a2f : decide (d.left < t.length) = false := decide_eq_false a2
    have a3f : decide (0 ≤ d.total) = false := decide_eq_false (by omega)
    have HT : Hid (told2 d t = (told3 d t, t)) := Lib.hid (by rw [HA.out, if_neg (by omega)])
    go_quiet (fail)
    go_wp2_with (fail)
    go_ret
    rw [HT.out]
    exact ClPost.mk (((H3.out.1.drewN nq).set20 (d.left - t.length)).set9 (d.got + t.length)) (((H3.out.2.drewN _).setCell (.inl (by simp)) _).setCell (.inl (by simp)) _) (by unfold told3; rw [if_pos a1])
  · have a2f : decide (d.left < t.length) = false := decide_eq_false a2
    have a4f : decide (d.total < d.got + t.length) = false := decide_eq_false a4
    have HT : Hid (told2 d t = (told3 d t, t)) := Lib.hid (by rw [HA.out, if_neg (by omega)])
    go_quiet (fail)
    go_wp2_with (fail)
    go_ret
    rw [HT.out]
    exact ClPost.mk (((H3.out.1.drewN nq).set20 (d.left - t.length)).set9 (d.got + t.length)) (((H3.out.2.drewN _).setCell (.inl (by simp)) _).setCell (.inl (by simp)) _) (by unfold told3; rw [if_pos a1])
  · have a1f : decide (0 ≤ d.left) = false := decide_eq_false (by omega)
    have a3f : decide (0 ≤ d.total) = false := decide_eq_false (by omega)
    have HT : Hid (told2 d t = (told3 d t, t)) := Lib.hid (by rw [HA.out, if_neg (by omega)])
    go_quiet (fail)
    go_wp2_with (fail)
    go_ret
    rw [HT.out]
    exact ClPost.mk ((H3.out.1.drewN nq).set9 (d.got + t.length)) ((H3.out.2.drewN _).setCell (.inl (by simp)) _) (by unfold told3; rw [if_neg (by omega)])
  · have a1f : decide (0 ≤ d.left) = false := decide_eq_false (by omega)
    have a4f : decide (d.total < d.got + t.length) = false := decide_eq_false a4
    have HT : Hid (told2 d t = (told3 d t, t)) := Lib.hid (by rw [HA.out, if_neg (by omega)])
    go_quiet (fail)
    go_wp2_with (fail)
    go_ret
    rw [HT.out]
    exact ClPost.mk ((H3.out.1.drewN nq).set9 (d.got + t.length)) ((H3.out.2.drewN _).setCell (.inl (by simp)) _) (by unfold told3; rw [if_neg (by omega)])
/-! ### parse -/
theorem prefix_any (l p : List UInt8) (w : World) :
    Calls Tryz.prog 117 #[S l, S p] w fun e w' => e = .returned (.tuple #[S (Lib.trimPrefix l p), .bool (Lib.hasPrefix l p)]) ∧ w = w' :=
  (Tryz.strings_CutPrefix ⟨l.toArray⟩ ⟨p.toArray⟩ w).mono fun e w' ⟨he, hw⟩ => ⟨by rw [he], hw.symm⟩
theorem cut_at (l p : List UInt8) (w : World) (hs : l.length < 4294967281) (hM : ML w) :
    Calls Tryz.prog 55 #[S l, S p] w fun e w' => e = .returned (.tuple #[S (Lib.cut l p).1, S (Lib.cut l p).2.1, .bool (Lib.cut l p).2.2]) ∧ Kept [] w w' := by
  obtain ⟨m, hm⟩ := hM
  exact (Tryz.strings_Cut ⟨l.toArray⟩ ⟨p.toArray⟩ m w (by simpa [ByteArray.size] using hs) hm).mono fun e w' ⟨h1, n, h2⟩ => ⟨h1, by rw [h2]; exact (Kept.refl _ _).drewN n⟩
theorem cut_len (l p : List UInt8) : (Lib.cut l p).1.length ≤ l.length ∧ (Lib.cut l p).2.1.length ≤ l.length := by
  unfold Lib.cut; split <;> simp; omega
theorem trim_len (l p : List UInt8) : (Lib.trimPrefix l p).length ≤ l.length := by
  unfold Lib.trimPrefix; split <;> simp
theorem num_bd (l : List UInt8) : -1 ≤ BD.lengthF l ∧ BD.lengthF l ≤ 999999999 := by
  unfold BD.lengthF
  split
  · omega
  · split
    · rename_i h1 h2
      have h := BD.digs_bd l h2 l.length (Nat.le_refl _)
      rw [List.take_length] at h
      have hp : (10 ^ l.length : Nat) ≤ 10 ^ 9 := Nat.pow_le_pow_right (by decide) (by omega)
      have h9 : (10 ^ 9 : Nat) = 1000000000 := by decide
      omega
    · omega
def bytesL : List UInt8 := [98, 121, 116, 101, 115, 32]
structure Sp where
  f : Int
  t : Int
  a : Int
  ok : Bool
def spanF (s : List UInt8) : Sp :=
  let c1 := Lib.cut (Lib.trimPrefix s bytesL) [45]
  let c2 := Lib.cut c1.2.1 [47]
  let f := BD.lengthF c1.1
  let t := BD.lengthF c2.1
  let a := BD.lengthF c2.2.1
  ⟨f, t, a, Lib.hasPrefix s bytesL && c1.2.2 && c2.2.2 && decide (0 ≤ f) && decide (f ≤ t) && decide (t < a)⟩
end CL
end
section
namespace CL
set_option maxHeartbeats 8000000
set_option maxRecDepth 100000
set_option maxRecDepth 100000 in
set_option maxHeartbeats 40000000 in
theorem span_any (s : List UInt8) (w : World) (hs : s.length < 4294967281) (hM : ML w) (x : Sp) (hx : spanF s = x) :
    Calls Tryz.prog 96 #[S s] w fun e w' => e = .returned (.tuple #[.agg #[I x.f, I x.t, I x.a], .bool x.ok]) ∧ Kept [] w w' := by
  have HM := Lib.hid hM
  clear hM
  obtain ⟨r0, hr0⟩ : ∃ r, Lib.trimPrefix s bytesL = r := ⟨_, rfl⟩
  obtain ⟨b0, hb0⟩ : ∃ b, Lib.hasPrefix s bytesL = b := ⟨_, rfl⟩
  obtain ⟨p1, r1, b1, hc1⟩ : ∃ p r b, Lib.cut r0 [45] = (p, r, b) := ⟨_, _, _, rfl⟩
  obtain ⟨p2, r2, b2, hc2⟩ : ∃ p r b, Lib.cut r1 [47] = (p, r, b) := ⟨_, _, _, rfl⟩
  have hl0 := trim_len s bytesL
  rw [hr0] at hl0
  have hl1 := (cut_len r0 [45]).2
  rw [hc1] at hl1
  have HX : Hid (x = ⟨BD.lengthF p1, BD.lengthF p2, BD.lengthF r2, b0 && b1 && b2 && decide (0 ≤ BD.lengthF p1) && decide (BD.lengthF p1 ≤ BD.lengthF p2) && decide (BD.lengthF p2 < BD.lengthF r2)⟩) := Lib.hid (by rw [← hx]; unfold spanF; rw [hr0, hb0, hc1]; dsimp only; rw [hc2])
  have HP0 := Lib.hid (fun W => prefix_any s bytesL W)
  rw [hr0, hb0] at HP0
  have HP1 := Lib.hid (fun W (hM : ML W) => cut_at r0 [45] W (by omega) hM)
  rw [hc1] at HP1
  have HP2 := Lib.hid (fun W (hM : ML W) => cut_at r1 [47] W (by simp only at hl1; omega) hM)
  rw [hc2] at HP2
  have hB : Hid (Kept [] w (w.alloc (.cells #[I 0, I 0, I 0] 116))) := Lib.hid ((Kept.refl _ _).alloc _)
  clear hx hr0 hb0 hc1 hc2 hl0 hl1
  go_enter Tryz.func96, Tryz.ntmps96
  go_wp2_with (fail)
  refine (HP0.out _).mono ?_
  rintro e w1 ⟨rfl, rfl⟩
  go_wp2_with (fail)
  refine (HP1.out _ (HM.out.kept hB.out)).mono ?_
  rintro e w2 ⟨rfl, k2⟩
  have hb2 := k2.at (heap_new w _) (by simp)
  have K2 := Lib.hid (And.intro (hB.out.trans' k2) hb2)
  clear k2 hb2
  go_wp2_with (fail)
  refine (HP2.out _ (HM.out.kept K2.out.1)).mono ?_
  rintro e w3 ⟨rfl, k3⟩
  have hb3 := k3.at K2.out.2 (by simp)
  have K3 := Lib.hid (And.intro (K2.out.1.trans' k3) hb3)
  clear k3 hb3
  go_wp2_with (fail)
  refine (BD.number_any p1 w3).mono ?_
  rintro e w4 ⟨rfl, rfl⟩
  go_wp2_with (fail)
  refine (BD.number_any p2 w3).mono ?_
  rintro e w4 ⟨rfl, rfl⟩
  go_wp2_with (fail)
  refine (BD.number_any r2 w3).mono ?_
  rintro e w4 ⟨rfl, rfl⟩
  obtain ⟨f, hf⟩ : ∃ f, BD.lengthF p1 = f := ⟨_, rfl⟩
  obtain ⟨t, ht⟩ : ∃ f, BD.lengthF p2 = f := ⟨_, rfl⟩
  obtain ⟨a, ha⟩ : ∃ f, BD.lengthF r2 = f := ⟨_, rfl⟩
  rw [hf, ht, ha] at HX
  rw [hf, ht, ha]
  clear hf ht ha
  have cc := K3.out.2
  have hlt3 : w.heap.size < w3.heap.size := lt_of_block cc
  have z0 : w3.cell? ⟨w.heap.size, 0, none⟩ = some (I 0) := by rw [cell_at cc]; rfl
  have z1 : w3.cell? ⟨w.heap.size, 1, none⟩ = some (I 0) := by rw [cell_at cc]; rfl
  have z2 : w3.cell? ⟨w.heap.size, 2, none⟩ = some (I 0) := by rw [cell_at cc]; rfl
  have zf : ∀ i, w3.frozen? ⟨w.heap.size, i, none⟩ = false := fun i => free_at cc i
  have hway : (b0 = false) ∨ (b0 = true ∧ b1 = false) ∨ (b0 = true ∧ b1 = true ∧ b2 = false) ∨ (b0 = true ∧ b1 = true ∧ b2 = true ∧ ¬ 0 ≤ f) ∨ (b0 = true ∧ b1 = true ∧ b2 = true ∧ 0 ≤ f ∧ ¬ f ≤ t) ∨ (b0 = true ∧ b1 = true ∧ b2 = true ∧ 0 ≤ f ∧ f ≤ t ∧ ¬ t < a) ∨ (b0 = true ∧ b1 = true ∧ b2 = true ∧ 0 ≤ f ∧ f ≤ t ∧ t < a) := by
    cases b0 <;> cases b1 <;> cases b2 <;> simp <;> omega
  clear cc
  rcases hway with rfl | ⟨rfl, rfl⟩ | ⟨rfl, rfl, rfl⟩ | ⟨rfl, rfl, rfl, q1⟩ | ⟨rfl, rfl, rfl, q1, q2⟩ | ⟨rfl, rfl, rfl, q1, q2, q3⟩ | ⟨rfl, rfl, rfl, q1, q2, q3⟩
  · have hW : ((((w3.setCell ⟨w.heap.size, 0, none⟩ (Value.int .i64 f)).setCell ⟨w.heap.size, 1, none⟩ (Value.int .i64 t)).setCell ⟨w.heap.size, 2, none⟩ (Value.int .i64 a)).alloc (Obj.cells #[Value.int .i64 f, Value.int .i64 t, Value.int .i64 a] 116)).drew.heap[w.heap.size]? = some (.cells #[I f, I t, I a] 116 (0, 0)) ∧ Kept [] w ((((w3.setCell ⟨w.heap.size, 0, none⟩ (Value.int .i64 f)).setCell ⟨w.heap.size, 1, none⟩ (Value.int .i64 t)).setCell ⟨w.heap.size, 2, none⟩ (Value.int .i64 a)).alloc (Obj.cells #[Value.int .i64 f, Value.int .i64 t, Value.int .i64 a] 116)).drew :=
      ⟨((Kept.refl [] _).alloc _).at (heap_setCell_at (heap_setCell_at (heap_setCell_at K3.out.2 0 (I f)) 1 (I t)) 2 (I a)) (by simp), ((((K3.out.1.setCell (.inr (Nat.le_refl _)) _).setCell (.inr (Nat.le_refl _)) _).setCell (.inr (Nat.le_refl _)) _).alloc _).drew⟩
    have HW := Lib.hid hW
    clear hW
    go_wp2_with (fail)
    go_region
    go_wp2_with (fail)
    have hW := HW.out
    clear HW z0 z1 z2 zf
    generalize ((((w3.setCell ⟨w.heap.size, 0, none⟩ (Value.int .i64 f)).setCell ⟨w.heap.size, 1, none⟩ (Value.int .i64 t)).setCell ⟨w.heap.size, 2, none⟩ (Value.int .i64 a)).alloc (Obj.cells #[Value.int .i64 f, Value.int .i64 t, Value.int .i64 a] 116)).drew = wf at *
    obtain ⟨hb, hk⟩ := hW
    have z0 : wf.cell? ⟨w.heap.size, 0, none⟩ = some (I f) := by rw [cell_at hb]; rfl
    have z1 : wf.cell? ⟨w.heap.size, 1, none⟩ = some (I t) := by rw [cell_at hb]; rfl
    have z2 : wf.cell? ⟨w.heap.size, 2, none⟩ = some (I a) := by rw [cell_at hb]; rfl
    have HKF := Lib.hid hk
    clear hb hk
    have HXX : Hid (x = ⟨f, t, a, false⟩) := Lib.hid (by rw [HX.out]; simp [*])
    exact bodyPost_ret (v := .tuple #[.agg #[I f, I t, I a], .bool false]) (by simp [results, Tryz.results96, go_sem, z0, z1, z2]) rfl ⟨by rw [HXX.out], HKF.out⟩
  · have hW : ((((w3.setCell ⟨w.heap.size, 0, none⟩ (Value.int .i64 f)).setCell ⟨w.heap.size, 1, none⟩ (Value.int .i64 t)).setCell ⟨w.heap.size, 2, none⟩ (Value.int .i64 a)).alloc (Obj.cells #[Value.int .i64 f, Value.int .i64 t, Value.int .i64 a] 116)).drew.heap[w.heap.size]? = some (.cells #[I f, I t, I a] 116 (0, 0)) ∧ Kept [] w ((((w3.setCell ⟨w.heap.size, 0, none⟩ (Value.int .i64 f)).setCell ⟨w.heap.size, 1, none⟩ (Value.int .i64 t)).setCell ⟨w.heap.size, 2, none⟩ (Value.int .i64 a)).alloc (Obj.cells #[Value.int .i64 f, Value.int .i64 t, Value.int .i64 a] 116)).drew :=
      ⟨((Kept.refl [] _).alloc _).at (heap_setCell_at (heap_setCell_at (heap_setCell_at K3.out.2 0 (I f)) 1 (I t)) 2 (I a)) (by simp), ((((K3.out.1.setCell (.inr (Nat.le_refl _)) _).setCell (.inr (Nat.le_refl _)) _).setCell (.inr (Nat.le_refl _)) _).alloc _).drew⟩
    have HW := Lib.hid hW
    clear hW
    go_wp2_with (fail)
    go_region
    go_wp2_with (fail)
    have hW := HW.out
    clear HW z0 z1 z2 zf
    generalize ((((w3.setCell ⟨w.heap.size, 0, none⟩ (Value.int .i64 f)).setCell ⟨w.heap.size, 1, none⟩ (Value.int .i64 t)).setCell ⟨w.heap.size, 2, none⟩ (Value.int .i64 a)).alloc (Obj.cells #[Value.int .i64 f, Value.int .i64 t, Value.int .i64 a] 116)).drew = wf at *
    obtain ⟨hb, hk⟩ := hW
    have z0 : wf.cell? ⟨w.heap.size, 0, none⟩ = some (I f) := by rw [cell_at hb]; rfl
    have z1 : wf.cell? ⟨w.heap.size, 1, none⟩ = some (I t) := by rw [cell_at hb]; rfl
    have z2 : wf.cell? ⟨w.heap.size, 2, none⟩ = some (I a) := by rw [cell_at hb]; rfl
    have HKF := Lib.hid hk
    clear hb hk
    have HXX : Hid (x = ⟨f, t, a, false⟩) := Lib.hid (by rw [HX.out]; simp [*])
    exact bodyPost_ret (v := .tuple #[.agg #[I f, I t, I a], .bool false]) (by simp [results, Tryz.results96, go_sem, z0, z1, z2]) rfl ⟨by rw [HXX.out], HKF.out⟩
  · have hW : ((((w3.setCell ⟨w.heap.size, 0, none⟩ (Value.int .i64 f)).setCell ⟨w.heap.size, 1, none⟩ (Value.int .i64 t)).setCell ⟨w.heap.size, 2, none⟩ (Value.int .i64 a)).alloc (Obj.cells #[Value.int .i64 f, Value.int .i64 t, Value.int .i64 a] 116)).drew.heap[w.heap.size]? = some (.cells #[I f, I t, I a] 116 (0, 0)) ∧ Kept [] w ((((w3.setCell ⟨w.heap.size, 0, none⟩ (Value.int .i64 f)).setCell ⟨w.heap.size, 1, none⟩ (Value.int .i64 t)).setCell ⟨w.heap.size, 2, none⟩ (Value.int .i64 a)).alloc (Obj.cells #[Value.int .i64 f, Value.int .i64 t, Value.int .i64 a] 116)).drew :=
      ⟨((Kept.refl [] _).alloc _).at (heap_setCell_at (heap_setCell_at (heap_setCell_at K3.out.2 0 (I f)) 1 (I t)) 2 (I a)) (by simp), ((((K3.out.1.setCell (.inr (Nat.le_refl _)) _).setCell (.inr (Nat.le_refl _)) _).setCell (.inr (Nat.le_refl _)) _).alloc _).drew⟩
    have HW := Lib.hid hW
    clear hW
    go_wp2_with (fail)
    go_region
    go_wp2_with (fail)
    have hW := HW.out
    clear HW z0 z1 z2 zf
    generalize ((((w3.setCell ⟨w.heap.size, 0, none⟩ (Value.int .i64 f)).setCell ⟨w.heap.size, 1, none⟩ (Value.int .i64 t)).setCell ⟨w.heap.size, 2, none⟩ (Value.int .i64 a)).alloc (Obj.cells #[Value.int .i64 f, Value.int .i64 t, Value.int .i64 a] 116)).drew = wf at *
    obtain ⟨hb, hk⟩ := hW
    have z0 : wf.cell? ⟨w.heap.size, 0, none⟩ = some (I f) := by rw [cell_at hb]; rfl
    have z1 : wf.cell? ⟨w.heap.size, 1, none⟩ = some (I t) := by rw [cell_at hb]; rfl
    have z2 : wf.cell? ⟨w.heap.size, 2, none⟩ = some (I a) := by rw [cell_at hb]; rfl
    have HKF := Lib.hid hk
    clear hb hk
    have HXX : Hid (x = ⟨f, t, a, false⟩) := Lib.hid (by rw [HX.out]; simp [*])
    exact bodyPost_ret (v := .tuple #[.agg #[I f, I t, I a], .bool false]) (by simp [results, Tryz.results96, go_sem, z0, z1, z2]) rfl ⟨by rw [HXX.out], HKF.out⟩
  · have q1f : decide (0 ≤ f) = false := decide_eq_false q1
    have hW : ((((w3.setCell ⟨w.heap.size, 0, none⟩ (Value.int .i64 f)).setCell ⟨w.heap.size, 1, none⟩ (Value.int .i64 t)).setCell ⟨w.heap.size, 2, none⟩ (Value.int .i64 a)).alloc (Obj.cells #[Value.int .i64 f, Value.int .i64 t, Value.int .i64 a] 116)).drew.heap[w.heap.size]? = some (.cells #[I f, I t, I a] 116 (0, 0)) ∧ Kept [] w ((((w3.setCell ⟨w.heap.size, 0, none⟩ (Value.int .i64 f)).setCell ⟨w.heap.size, 1, none⟩ (Value.int .i64 t)).setCell ⟨w.heap.size, 2, none⟩ (Value.int .i64 a)).alloc (Obj.cells #[Value.int .i64 f, Value.int .i64 t, Value.int .i64 a] 116)).drew :=
      ⟨((Kept.refl [] _).alloc _).at (heap_setCell_at (heap_setCell_at (heap_setCell_at K3.out.2 0 (I f)) 1 (I t)) 2 (I a)) (by simp), ((((K3.out.1.setCell (.inr (Nat.le_refl _)) _).setCell (.inr (Nat.le_refl _)) _).setCell (.inr (Nat.le_refl _)) _).alloc _).drew⟩
    have HW := Lib.hid hW
    clear hW
    go_wp2_with (fail)
    go_region
    go_wp2_with (fail)
    have hW := HW.out
    clear HW z0 z1 z2 zf
    generalize ((((w3.setCell ⟨w.heap.size, 0, none⟩ (Value.int .i64 f)).setCell ⟨w.heap.size, 1, none⟩ (Value.int .i64 t)).setCell ⟨w.heap.size, 2, none⟩ (Value.int .i64 a)).alloc (Obj.cells #[Value.int .i64 f, Value.int .i64 t, Value.int .i64 a] 116)).drew = wf at *
    obtain ⟨hb, hk⟩ := hW
    have z0 : wf.cell? ⟨w.heap.size, 0, none⟩ = some (I f) := by rw [cell_at hb]; rfl
    have z1 : wf.cell? ⟨w.heap.size, 1, none⟩ = some (I t) := by rw [cell_at hb]; rfl
    have z2 : wf.cell? ⟨w.heap.size, 2, none⟩ = some (I a) := by rw [cell_at hb]; rfl
    have HKF := Lib.hid hk
    clear hb hk
    have HXX : Hid (x = ⟨f, t, a, false⟩) := Lib.hid (by rw [HX.out]; simp [*])
    exact bodyPost_ret (v := .tuple #[.agg #[I f, I t, I a], .bool false]) (by simp [results, Tryz.results96, go_sem, z0, z1, z2]) rfl ⟨by rw [HXX.out], HKF.out⟩
  · have q2f : decide (f ≤ t) = false := decide_eq_false q2
    have hW : ((((w3.setCell ⟨w.heap.size, 0, none⟩ (Value.int .i64 f)).setCell ⟨w.heap.size, 1, none⟩ (Value.int .i64 t)).setCell ⟨w.heap.size, 2, none⟩ (Value.int .i64 a)).alloc (Obj.cells #[Value.int .i64 f, Value.int .i64 t, Value.int .i64 a] 116)).drew.heap[w.heap.size]? = some (.cells #[I f, I t, I a] 116 (0, 0)) ∧ Kept [] w ((((w3.setCell ⟨w.heap.size, 0, none⟩ (Value.int .i64 f)).setCell ⟨w.heap.size, 1, none⟩ (Value.int .i64 t)).setCell ⟨w.heap.size, 2, none⟩ (Value.int .i64 a)).alloc (Obj.cells #[Value.int .i64 f, Value.int .i64 t, Value.int .i64 a] 116)).drew :=
      ⟨((Kept.refl [] _).alloc _).at (heap_setCell_at (heap_setCell_at (heap_setCell_at K3.out.2 0 (I f)) 1 (I t)) 2 (I a)) (by simp), ((((K3.out.1.setCell (.inr (Nat.le_refl _)) _).setCell (.inr (Nat.le_refl _)) _).setCell (.inr (Nat.le_refl _)) _).alloc _).drew⟩
    have HW := Lib.hid hW
    clear hW
    go_wp2_with (fail)
    go_region
    go_wp2_with (fail)
    have hW := HW.out
    clear HW z0 z1 z2 zf
    generalize ((((w3.setCell ⟨w.heap.size, 0, none⟩ (Value.int .i64 f)).setCell ⟨w.heap.size, 1, none⟩ (Value.int .i64 t)).setCell ⟨w.heap.size, 2, none⟩ (Value.int .i64 a)).alloc (Obj.cells #[Value.int .i64 f, Value.int .i64 t, Value.int .i64 a] 116)).drew = wf at *
    obtain ⟨hb, hk⟩ := hW
    have z0 : wf.cell? ⟨w.heap.size, 0, none⟩ = some (I f) := by rw [cell_at hb]; rfl
    have z1 : wf.cell? ⟨w.heap.size, 1, none⟩ = some (I t) := by rw [cell_at hb]; rfl
    have z2 : wf.cell? ⟨w.heap.size, 2, none⟩ = some (I a) := by rw [cell_at hb]; rfl
    have HKF := Lib.hid hk
    clear hb hk
    have HXX : Hid (x = ⟨f, t, a, false⟩) := Lib.hid (by rw [HX.out]; simp [*])
    exact bodyPost_ret (v := .tuple #[.agg #[I f, I t, I a], .bool false]) (by simp [results, Tryz.results96, go_sem, z0, z1, z2]) rfl ⟨by rw [HXX.out], HKF.out⟩
  · have q3f : decide (t < a) = false := decide_eq_false q3
    have hW : ((((w3.setCell ⟨w.heap.size, 0, none⟩ (Value.int .i64 f)).setCell ⟨w.heap.size, 1, none⟩ (Value.int .i64 t)).setCell ⟨w.heap.size, 2, none⟩ (Value.int .i64 a)).alloc (Obj.cells #[Value.int .i64 f, Value.int .i64 t, Value.int .i64 a] 116)).drew.heap[w.heap.size]? = some (.cells #[I f, I t, I a] 116 (0, 0)) ∧ Kept [] w ((((w3.setCell ⟨w.heap.size, 0, none⟩ (Value.int .i64 f)).setCell ⟨w.heap.size, 1, none⟩ (Value.int .i64 t)).setCell ⟨w.heap.size, 2, none⟩ (Value.int .i64 a)).alloc (Obj.cells #[Value.int .i64 f, Value.int .i64 t, Value.int .i64 a] 116)).drew :=
      ⟨((Kept.refl [] _).alloc _).at (heap_setCell_at (heap_setCell_at (heap_setCell_at K3.out.2 0 (I f)) 1 (I t)) 2 (I a)) (by simp), ((((K3.out.1.setCell (.inr (Nat.le_refl _)) _).setCell (.inr (Nat.le_refl _)) _).setCell (.inr (Nat.le_refl _)) _).alloc _).drew⟩
    have HW := Lib.hid hW
    clear hW
    go_wp2_with (fail)
    go_region
    go_wp2_with (fail)
    have hW := HW.out
    clear HW z0 z1 z2 zf
    generalize ((((w3.setCell ⟨w.heap.size, 0, none⟩ (Value.int .i64 f)).setCell ⟨w.heap.size, 1, none⟩ (Value.int .i64 t)).setCell ⟨w.heap.size, 2, none⟩ (Value.int .i64 a)).alloc (Obj.cells #[Value.int .i64 f, Value.int .i64 t, Value.int .i64 a] 116)).drew = wf at *
    obtain ⟨hb, hk⟩ := hW
    have z0 : wf.cell? ⟨w.heap.size, 0, none⟩ = some (I f) := by rw [cell_at hb]; rfl
    have z1 : wf.cell? ⟨w.heap.size, 1, none⟩ = some (I t) := by rw [cell_at hb]; rfl
    have z2 : wf.cell? ⟨w.heap.size, 2, none⟩ = some (I a) := by rw [cell_at hb]; rfl
    have HKF := Lib.hid hk
    clear hb hk
    have HXX : Hid (x = ⟨f, t, a, false⟩) := Lib.hid (by rw [HX.out]; simp [*])
    exact bodyPost_ret (v := .tuple #[.agg #[I f, I t, I a], .bool false]) (by simp [results, Tryz.results96, go_sem, z0, z1, z2]) rfl ⟨by rw [HXX.out], HKF.out⟩
  · have hW : ((((w3.setCell ⟨w.heap.size, 0, none⟩ (Value.int .i64 f)).setCell ⟨w.heap.size, 1, none⟩ (Value.int .i64 t)).setCell ⟨w.heap.size, 2, none⟩ (Value.int .i64 a)).alloc (Obj.cells #[Value.int .i64 f, Value.int .i64 t, Value.int .i64 a] 116)).drew.heap[w.heap.size]? = some (.cells #[I f, I t, I a] 116 (0, 0)) ∧ Kept [] w ((((w3.setCell ⟨w.heap.size, 0, none⟩ (Value.int .i64 f)).setCell ⟨w.heap.size, 1, none⟩ (Value.int .i64 t)).setCell ⟨w.heap.size, 2, none⟩ (Value.int .i64 a)).alloc (Obj.cells #[Value.int .i64 f, Value.int .i64 t, Value.int .i64 a] 116)).drew :=
      ⟨((Kept.refl [] _).alloc _).at (heap_setCell_at (heap_setCell_at (heap_setCell_at K3.out.2 0 (I f)) 1 (I t)) 2 (I a)) (by simp), ((((K3.out.1.setCell (.inr (Nat.le_refl _)) _).setCell (.inr (Nat.le_refl _)) _).setCell (.inr (Nat.le_refl _)) _).alloc _).drew⟩
    have HW := Lib.hid hW
    clear hW
    go_wp2_with (fail)
    go_region
    go_wp2_with (fail)
    have hW := HW.out
    clear HW z0 z1 z2 zf
    generalize ((((w3.setCell ⟨w.heap.size, 0, none⟩ (Value.int .i64 f)).setCell ⟨w.heap.size, 1, none⟩ (Value.int .i64 t)).setCell ⟨w.heap.size, 2, none⟩ (Value.int .i64 a)).alloc (Obj.cells #[Value.int .i64 f, Value.int .i64 t, Value.int .i64 a] 116)).drew = wf at *
    obtain ⟨hb, hk⟩ := hW
    have z0 : wf.cell? ⟨w.heap.size, 0, none⟩ = some (I f) := by rw [cell_at hb]; rfl
    have z1 : wf.cell? ⟨w.heap.size, 1, none⟩ = some (I t) := by rw [cell_at hb]; rfl
    have z2 : wf.cell? ⟨w.heap.size, 2, none⟩ = some (I a) := by rw [cell_at hb]; rfl
    have HKF := Lib.hid hk
    clear hb hk
    have HXX : Hid (x = ⟨f, t, a, true⟩) := Lib.hid (by rw [HX.out]; simp [*])
    exact bodyPost_ret (v := .tuple #[.agg #[I f, I t, I a], .bool true]) (by simp [results, Tryz.results96, go_sem, z0, z1, z2]) rfl ⟨by rw [HXX.out], HKF.out⟩
end CL
end
end Go.Proofs.YtgdncdhalnijcaaGreatDoor
