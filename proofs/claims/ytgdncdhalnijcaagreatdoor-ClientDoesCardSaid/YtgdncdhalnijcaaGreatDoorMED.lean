/- Walks and lemmas on the program of this seat, used by its statements; each theorem bears its own conditions. -/
import Derived.Test.YtgdncdhalnijcaaGreatDoorMEB
import Derived.Test.YtgdncdhalnijcaaGreatDoorMHK
import Derived.Test.YtgdncdhalnijcaaGreatDoorMCX
import Derived.Handy
import Derived.Recover
import Derived.IntWalk
import Derived.Deep.CutRange
import Derived.OwnWalk
import Derived.Deep.AppendLies
import Derived.Deep.RegionLaw
import Derived.Deep.RegionHeld3
import Derived.StillTailTactics
import Derived.RegionTactic
import Derived.ChangeAlike
namespace Go.Proofs.YtgdncdhalnijcaaGreatDoor
open Go.RowKit
set_option linter.unusedVariables false
set_option linter.unusedSimpArgs false
namespace CL
set_option maxHeartbeats 8000000
set_option maxRecDepth 100000
/-! ### What binds the document's client to the program's -/
theorem strs_keptB {w w' : World} {v : Value} {ss : List (List UInt8)} {T : List Nat} (h : StrsAt w v ss) (k : Kept T w w') (hn : ∀ q, v.ownBlock = some q → q ∉ T) : StrsAt w' v ss := by
  obtain ⟨p, cap, hv, hl, hc⟩ := h
  refine ⟨p, cap, hv, hl, fun hne => ?_⟩
  obtain ⟨b, off, hp, hcell⟩ := hc hne
  have hq : b ∉ T := hn b (by rw [hv, hp]; rfl)
  exact ⟨b, off, hp, fun i hi => by rw [k.cell (World.block_lt_of_cell? w _ (hcell i hi)) hq]; exact hcell i hi⟩
/-- The head is known: the reader is what the body's bytes make of it. -/
structure Kn (w : World) (T : List Nat) (y : Mx) (r : BD.Rd) : Prop where
  ex : ∃ (h : Hd) (n : Nat) (R0 : BD.Rd) (o : List UInt8), y.hst = h.st ∧ StrsAt w y.nv h.ns ∧ StrsAt w y.vv h.vs ∧ (∀ v ∈ h.vs, v.length ≤ 4611686018427387904) ∧ BD.newF h.st h.ns h.vs = (some R0, 0) ∧ y.n = n ∧ n ≤ y.raw.length ∧ BD.feeds R0 (y.raw.drop n) = (r, o, 0) ∧ y.seen = o.length
  f1 : ∀ q, y.nv.ownBlock = some q → q ∉ T ∧ q < w.heap.size
  f2 : ∀ q, y.vv.ownBlock = some q → q ∉ T ∧ q < w.heap.size
structure Rl (w : World) (T : List Nat) (c : Cl) (y : Mx) : Prop where
  no : c.state = 1 → c.body = none → y.known = false ∧ y.raw = c.head ∧ y.seen = 0
  yes : c.state = 1 → ∀ r, c.body = some r → y.known = true ∧ Kn w T y r
theorem Rl.off {w : World} {T : List Nat} {c : Cl} {y : Mx} (h : c.state ≠ 1) : Rl w T c y := ⟨fun e => absurd e h, fun e => absurd e h⟩
theorem Kn.kept {w w' : World} {T U : List Nat} {y : Mx} {r : BD.Rd} (h : Kn w T y r) (k : Kept U w w') (hs : ∀ x ∈ U, x ∈ T) : Kn w' T y r := by
  obtain ⟨⟨hd, n, R0, o, a1, a2, a3, a4⟩, f1, f2⟩ := h
  have := k.size
  exact ⟨⟨hd, n, R0, o, a1, strs_keptB a2 k (fun q hq hm => (f1 q hq).1 (hs q hm)), strs_keptB a3 k (fun q hq hm => (f2 q hq).1 (hs q hm)), a4⟩, fun q hq => ⟨(f1 q hq).1, by have := (f1 q hq).2; omega⟩, fun q hq => ⟨(f2 q hq).1, by have := (f2 q hq).2; omega⟩⟩
theorem Kn.next {w : World} {T T' : List Nat} {y : Mx} {r : BD.Rd} (h : Kn w T y r) (hs : ∀ x ∈ T', x ∈ T ∨ w.heap.size ≤ x) : Kn w T' y r :=
  ⟨h.ex, fun q hq => ⟨fun hm => by rcases hs q hm with h1 | h1; exact (h.f1 q hq).1 h1; have := (h.f1 q hq).2; omega, (h.f1 q hq).2⟩, fun q hq => ⟨fun hm => by rcases hs q hm with h1 | h1; exact (h.f2 q hq).1 h1; have := (h.f2 q hq).2; omega, (h.f2 q hq).2⟩⟩
theorem Rl.kept {w w' : World} {T U : List Nat} {c : Cl} {y : Mx} (h : Rl w T c y) (k : Kept U w w') (hs : ∀ x ∈ U, x ∈ T) : Rl w' T c y := ⟨h.no, fun e r hr => ⟨(h.yes e r hr).1, (h.yes e r hr).2.kept k hs⟩⟩
theorem Rl.next {w : World} {T T' : List Nat} {c : Cl} {y : Mx} (h : Rl w T c y) (hs : ∀ x ∈ T', x ∈ T ∨ w.heap.size ≤ x) : Rl w T' c y := ⟨h.no, fun e r hr => ⟨(h.yes e r hr).1, (h.yes e r hr).2.next hs⟩⟩
theorem loses_ne1 (c : Cl) : (losesF c).state ≠ 1 := by
  unfold losesF lose2
  split <;> simp [failsF]
theorem ends_ne1 (c : Cl) : (endsF c).state ≠ 1 := by
  unfold endsF
  split
  · simp [failsF]
  split
  · simp
  · exact loses_ne1 _
theorem heads_no (c : Cl) (h : Hd) : (headsF c h).2 = false → (headsF c h).1.state ≠ 1 := by
  have h3 : ∀ (d : Cl) (z : Int), (heads3 d z).2 = false → (heads3 d z).1.state ≠ 1 := by
    intro d z
    unfold heads3
    split
    · intro e; cases e
    split
    · intro _; simp [failsF]
    split
    · intro _; simp [failsF]
    · intro e; cases e
  unfold headsF
  split
  · intro _; exact loses_ne1 _
  split
  · intro _; simp [failsF]
  split
  · unfold heads2
    split
    · split
      · exact h3 _ _
      · intro _; simp [failsF]
    · exact h3 _ _
  · intro _; simp [failsF]
theorem heads_yes (c : Cl) (h : Hd) : (headsF c h).2 = true → ∃ r, BD.newF h.st h.ns h.vs = (some r, 0) ∧ (headsF c h).1.body = some r := by
  have h3 : ∀ (d : Cl) (z : Int), (heads3 d z).2 = true → (heads3 d z).1.body = d.body := by
    intro d z
    unfold heads3
    split
    · intro _; rfl
    split
    · intro e; cases e
    split
    · intro e; cases e
    · intro _; rfl
  unfold headsF
  split
  · intro e; cases e
  split
  · intro e; cases e
  split
  · rename_i r k hr
    have hk : k = 0 := by
      rcases BD.kind_new h.st h.ns h.vs with ⟨k', h1, _, _⟩ | ⟨_, _, R, h1, _, _⟩
      · rw [h1] at hr; cases hr
      · rw [h1] at hr; cases hr; rfl
    subst hk
    intro e
    refine ⟨r, hr, ?_⟩
    unfold heads2 at e ⊢
    split
    · rename_i h6
      rw [if_pos h6] at e
      split
      · rename_i hy
        rw [if_pos hy] at e
        rw [h3 _ _ e]
      · rename_i hy
        rw [if_neg hy] at e; cases e
    · rename_i h6
      rw [if_neg h6] at e
      rw [h3 _ _ e]
  · intro e; cases e
theorem cellKept {w w' : World} (k : Kept [] w w') {p : Addr} {v : Value} (h : w.cell? p = some v) : w'.cell? p = some v := (k.cell (World.block_lt_of_cell? w _ h) (by simp)).trans h
abbrev TR (W : World) (b : Nat) (h : Hd) (Y : Mx) (n : Nat) (w' : World) : Prop :=
  w'.cell? ⟨b, 19, none⟩ = some (I h.st) ∧ w'.cell? ⟨b, 20, none⟩ = some Y.nv ∧ w'.cell? ⟨b, 21, none⟩ = some Y.vv ∧ w'.cell? ⟨b, 17, none⟩ = some (S Y.raw) ∧ w'.cell? ⟨b, 22, none⟩ = some (I n) ∧ Kept [] W w'
theorem TR.step {W w1 w2 : World} {b : Nat} {h : Hd} {Y : Mx} {n : Nat} (t : TR W b h Y n w1) (k : Kept [] w1 w2) : TR W b h Y n w2 := by
  obtain ⟨t1, t2, t3, t4, t5, t6⟩ := t
  exact ⟨cellKept k t1, cellKept k t2, cellKept k t3, cellKept k t4, cellKept k t5, t6.trans' k⟩
theorem TR.kp {W w1 : World} {b : Nat} {h : Hd} {Y : Mx} {n : Nat} (t : TR W b h Y n w1) : Kept [] W w1 := t.2.2.2.2.2
def RIPost (b : Nat) (T : List Nat) (w : World) (x : Cl × List UInt8) (y : Mx) (s : List UInt8) (e : Ending) (w' : World) : Prop :=
  e = .returned (S x.2) ∧ ∃ y', MAt w' b x.1 y' ∧ Kept [b] w w' ∧ Rl w' T x.1 y' ∧ y'.raw.length ≤ y.raw.length + s.length
set_option maxRecDepth 100000 in
set_option maxHeartbeats 40000000 in
theorem rin_any (b : Nat) (T : List Nat) (c : Cl) (y : Mx) (s : List UInt8) (w : World) (H : MAt w b c y) (hRl : Rl w T c y) (hk : c.Ok) (hT : ∀ t ∈ T, t < w.heap.size) (hbT : b ∈ T) (hs : y.raw.length + s.length ≤ 1000000) (x : Cl × List UInt8) (hx : inF c s = x) :
    Calls Tryz.prog 21 #[Ptr b, S s] w (RIPost b T w x y s) := by
  have HX := Lib.hid hx
  have HKc := Lib.hid hk
  have HT := Lib.hid hT
  have HbT := Lib.hid hbT
  have HRl := Lib.hid hRl
  have hsI : (y.raw.length : Int) + s.length ≤ 1000000 := by omega
  have HS := Lib.hid hs
  clear hx hk hT hbT hRl hs
  obtain ⟨c0, c1, c2, c3, c4, c5, c6, c7, c8, c9, c10, c11, c12, c13, c14, c15, c16, c17, c18, c19, c20, c21, c22, c23, c24, c25⟩ := (H).cells
  have hf := (H).free
  have HH := Lib.hid H
  clear H
  go_enter Tryz.func21, Tryz.ntmps21
  by_cases h1 : c.state = 1
  case neg =>
    have hb : (c.state != 1) = true := by simpa using h1
    have hY : Hid (x = (c, [])) := Lib.hid (by rw [← HX.out]; unfold inF; rw [if_neg h1])
    have HR0 : Hid (Rl w T c y) := Lib.hid (Rl.off h1)
    clear h1
    go_wp2_with (fail)
    go_ret
    rw [hY.out]
    exact ⟨rfl, y, HH.out, Kept.refl _ _, HR0.out, by omega⟩
  case pos =>
  have hb : (c.state != 1) = false := by simpa using h1
  obtain ⟨d, hd⟩ : ∃ d : Cl, (if s = [] then c else { c with last := c.now }) = d := ⟨_, rfl⟩
  have hfacts : d.Ok ∧ d.state = 1 ∧ d.body = c.body ∧ d.head = c.head := by
    have h := HKc.out
    rw [← hd]
    split
    · exact ⟨h, h1, rfl, rfl⟩
    · exact ⟨⟨⟨h.bd.f0, h.bd.f1, h.bd.l1, h.bd.t0, h.bd.t1, h.bd.r0, h.bd.r1, h.bd.w0, h.bd.w1, h.bd.g0, h.bd.g1, h.bd.o0, h.bd.o1, h.bd.n0, h.bd.n1, h.bd.y0, h.bd.y1, h.bd.a0, h.bd.a1, h.bd.k0, h.bd.k1, h.bd.b0, h.bd.b1, h.bd.n0, Int.le_refl _, h.bd.p0, h.bd.p1, h.bd.q0, h.bd.q1⟩, h.st0, h.st1, h.tr, h.ho, h.ta, h.bo, h.rd, h.hd⟩, h1, rfl, rfl⟩
  have hX1 : Hid (x = in1 d s) := Lib.hid (by rw [← HX.out]; unfold inF; rw [if_pos h1, hd])
  have HF := Lib.hid hfacts
  have H1 := Lib.hid h1
  clear hfacts h1
  go_upto_if 20 with (fail)
  go_cut [] from 19 to 27 (fun wx => MAt wx b d y ∧ Kept [b] w wx)
  case first =>
    by_cases hse : s = []
    · have hde : d = c := by rw [← hd, if_pos hse]
      have HDE := Lib.hid hde
      subst hse
      clear hd hde
      go_wp2_with (fail)
      go_meet
      exact ⟨by rw [HDE.out]; exact HH.out, Kept.refl _ _⟩
    · have hde : d = { c with last := c.now } := by rw [← hd, if_neg hse]
      have HDE := Lib.hid hde
      have hsb : (s != []) = true := by simpa using hse
      have hsb2 : (!s.isEmpty) = true := by simpa using hse
      clear hd hde hse
      go_wp2_with (fail)
      all_goals first
        | (rename_i hh; rw [hsb2] at hh; cases hh; done)
        | (go_meet; exact ⟨by rw [HDE.out]; exact HH.out.set16 c.now, (Kept.refl _ _).setCell (.inl (by simp)) _⟩)
  case rest =>
  obtain ⟨h2, k2⟩ := hcut
  clear c0 c1 c2 c3 c4 c5 c6 c7 c8 c9 c10 c11 c12 c13 c14 c15 c16 c17 c18 c19 c20 c21 c22 c23 c24 c25 hf
  clear hd
  obtain ⟨c0, c1, c2, c3, c4, c5, c6, c7, c8, c9, c10, c11, c12, c13, c14, c15, c16, c17, c18, c19, c20, c21, c22, c23, c24, c25⟩ := (h2).cells
  have hf := (h2).free
  have hlw := k2.size
  have HTW : Hid (∀ t ∈ T, t < wc.heap.size) := Lib.hid fun t ht => by have := HT.out t ht; omega
  have HDk := Lib.hid (And.intro h2 k2)
  have h3 := h2.set17 (y.raw ++ s)
  have k3 : Kept [b] w (wc.setCell ⟨b, 17, none⟩ (S (y.raw ++ s))) := k2.setCell (.inl (by simp)) _
  clear h2 k2 hlw
  obtain ⟨W, hW⟩ : ∃ W, wc.setCell ⟨b, 17, none⟩ (S (y.raw ++ s)) = W := ⟨_, rfl⟩
  have hWl : W.heap.size = wc.heap.size := by rw [← hW]; simp [World.setCell]
  rw [hW] at h3 k3
  have HRlW : Hid (Rl W T c y) := Lib.hid (HRl.out.kept k3 (fun x hx => by simp at hx; subst hx; exact HbT.out))
  go_upto_region 6 with (fail)
  (try rw [hW])
  clear hW
  clear c0 c1 c2 c3 c4 c5 c6 c7 c8 c9 c10 c11 c12 c13 c14 c15 c16 c17 c18 c19 c20 c21 c22 c23 c24 c25 hf
  rw [← hWl] at HTW
  clear hWl
  cases hbd : d.body with
  | some r =>
    obtain ⟨Y, hYe⟩ : ∃ Y : Mx, ({ y with raw := y.raw ++ s } : Mx) = Y := ⟨_, rfl⟩
    have hyes := HRlW.out.yes H1.out r (by rw [← HF.out.2.2.1]; exact hbd)
    obtain ⟨hkn, ⟨h, n, R0, o1, a1, a2, a3, a4, a5, a6, a7, a8, a9⟩, f1, f2⟩ := hyes
    have HK : Hid (Y.hst = h.st ∧ StrsAt W Y.nv h.ns ∧ StrsAt W Y.vv h.vs ∧ (∀ v ∈ h.vs, v.length ≤ 4611686018427387904) ∧ BD.newF h.st h.ns h.vs = (some R0, 0) ∧ Y.n = n ∧ n ≤ Y.raw.length ∧ Y.seen = o1.length ∧ (∀ q, Y.nv.ownBlock = some q → q ∉ T ∧ q < W.heap.size) ∧ (∀ q, Y.vv.ownBlock = some q → q ∉ T ∧ q < W.heap.size)) := Lib.hid (by rw [← hYe]; exact ⟨a1, a2, a3, a4, a5, a6, by rw [List.length_append]; omega, a9, f1, f2⟩)
    have HRW : Hid (Y.raw.length ≤ y.raw.length + s.length ∧ y.raw.length + s.length ≤ 1000000) := Lib.hid (by rw [← hYe]; exact ⟨by rw [List.length_append]; exact Nat.le_refl _, HS.out⟩)
    have HFE : Hid (∀ r2 o2 k, BD.feeds r s = (r2, o2, k) → BD.feeds R0 (Y.raw.drop n) = (r2, if k = 0 then o1 ++ o2 else [], k)) := Lib.hid fun r2 o2 k hq => by
      rw [← hYe]
      show BD.feeds R0 ((y.raw ++ s).drop n) = _
      rw [List.drop_append_of_le_length a7]
      exact BD.feeds_go a8 hq
    have HKN : Hid (Y.known = true) := Lib.hid (by rw [← hYe]; exact hkn)
    rw [hYe] at h3
    have HM := Lib.hid (And.intro h3 k3)
    have HX2 : Hid (x = in2 d r s) := Lib.hid (by rw [hX1.out]; unfold in1; rw [hbd])
    have HR : Hid (r.Ok ∧ r.e = 0 ∧ r.rest = []) := Lib.hid (by
      obtain ⟨f1, f2, f3, f4⟩ := HF.out
      obtain ⟨g1, g2, g3⟩ := f1.rd f2 r hbd
      exact ⟨f1.bo r hbd, g1, g3⟩)
    have HB : Hid (d.Bd ∧ d.state = 1) := Lib.hid ⟨HF.out.1.bd, HF.out.2.1⟩
    obtain ⟨s1, hs1⟩ : ∃ s1, s = s1 := ⟨_, rfl⟩
    have hs1l : (s1.length : Int) ≤ 1000000 := by rw [← hs1]; omega
    rw [hs1] at HX2 HFE
    clear hs1 hYe hkn a1 a2 a3 a4 a5 a6 a7 a8 a9 f1 f2 hbd k3
    obtain ⟨c0, c1, c2, c3, c4, c5, c6, c7, c8, c9, c10, c11, c12, c13, c14, c15, c16, c17, c18, c19, c20, c21, c22, c23, c24, c25⟩ := (h3).cells
    have hf := (h3).free
    rw [HKN.out] at c18
    clear h3
    obtain ⟨hYst, hYs1, hYs2, hYl, hYnew, hYn, hYnl, hYseen, hYo1, hYo2⟩ := HK.out
    rw [hYst] at c19
    rw [hYn] at c22
    rw [hYseen] at c23
    have hrl : Y.raw.length ≤ 1000000 := by have := HRW.out; omega
    obtain ⟨sd, hsd⟩ : ∃ sd, Y.raw.drop n = sd := ⟨_, rfl⟩
    have hsdl : sd.length ≤ 1000000 := by rw [← hsd, List.length_drop]; omega
    have HRUN := Lib.hid (fun V (k : Kept [] W V) => BD.run_any BD.small_says h.st Y.nv Y.vv h.ns h.vs sd V (toBDS (hYs1.kept k)) (toBDS (hYs2.kept k)) (fun v hv => by have := hYl v hv; omega) hsdl R0 hYnew)
    have hYn0 : (n : Int) ≤ Y.raw.length := by omega
    have hYn1 : (0 : Int) ≤ n := by omega
    have HSD := Lib.hid hsd
    clear hYst hYs1 hYs2 hYl hYnew hYn hYseen hYo1 hYo2
    go_upto_region 18 with (fail)
    go_cut [8, 9, 10, 11] from 71 to 88 (fun v8 v9 v10 v11 wx => ∃ (out : List UInt8) (used : Int) (dd : Bool) (k : Int), v8 = S out ∧ v9 = I used ∧ v10 = .bool dd ∧ v11 = I k ∧ BD.RunIs R0 sd out used dd k ∧ Kept [] W wx)
    case first =>
      have hts : TR W b h Y n W := ⟨c19, c20, c21, c17, c22, Kept.refl _ _⟩
      clear c0 c1 c2 c3 c4 c5 c6 c7 c8 c9 c10 c11 c12 c13 c14 c15 c16 c17 c18 c19 c20 c21 c22 c23 c24 c25 hf
      go_region_held3 (fun w' => TR W b h Y n w')
        (first | assumption | exact TR.step hts ((Kept.refl _ _).drew) | exact TR.step (by assumption) k3 | exact TR.step (by assumption) ((Kept.refl _ _).drew))
        (first | (go_at_call 41; (with_reducible refine (HRUN.out _ (TR.kp (by assumption))).mono ?_); rintro e w3 ⟨out, used, dd, k, rfl, hrun, k3⟩; replace k3 := ofBD k3))
      rename_i hfin
      go_wp2
      go_meet
      exact ⟨out, used, dd, k, rfl, rfl, rfl, rfl, hrun, hfin.2.2.2.2.2⟩
    case rest =>
    obtain ⟨out, used, dd, k, rfl, rfl, rfl, rfl, hrun, kW⟩ := hcut
    have h3 := HM.out.1.kept kW (by simp)
    have kW2 : Kept [b] W wc := kW.mono (by simp)
    clear c0 c1 c2 c3 c4 c5 c6 c7 c8 c9 c10 c11 c12 c13 c14 c15 c16 c17 c18 c19 c20 c21 c22 c23 c24 c25 hf
    obtain ⟨c0, c1, c2, c3, c4, c5, c6, c7, c8, c9, c10, c11, c12, c13, c14, c15, c16, c17, c18, c19, c20, c21, c22, c23, c24, c25⟩ := (h3).cells
    have hf := (h3).free
    obtain ⟨hYst, hYs1, hYs2, hYl, hYnew, hYn, hYnl, hYseen, hYo1, hYo2⟩ := HK.out
    rw [hYst] at c19
    rw [hYn] at c22
    rw [hYseen] at c23
    have H3 := Lib.hid (And.intro h3 kW2)
    clear h3 kW2 kW hYst hYs1 hYs2 hYl hYnew hYn hYseen hYo1 hYo2 HRUN
    obtain ⟨r2, hfr, hdd, _⟩ := hrun
    obtain ⟨r2', o2, k', hfs⟩ : ∃ r2' o2 k', BD.feeds r s1 = (r2', o2, k') := ⟨_, _, _, rfl⟩
    have h4 := HFE.out _ _ _ hfs
    rw [hsd, hfr] at h4
    simp only [Prod.mk.injEq] at h4
    obtain ⟨q1, hout, q2⟩ := h4
    subst q1 q2
    obtain ⟨g1, g2, g3⟩ := HR.out
    by_cases hk0 : k = 0
    case neg =>
      have hwr := BD.write_err g2 hfs hk0
      have HY : Hid (x = (failsF { d with body := some { r2 with told := r.told, e := k } } (formedF k), [])) := Lib.hid (by rw [HX2.out]; unfold in2; rw [hwr]; simp only; rw [if_neg hk0])
      have hkb : (k != 0) = true := by simpa using hk0
      clear hk0 hwr hfs hfr hdd hout hsd
      go_wp2_with (fail)
      refine (shaped_any k _).mono ?_
      rintro e w6 ⟨rfl, rfl⟩
      go_wp2_with (fail)
      refine (rfails_any b _ Y (formedF k) _ H3.out.1).mono ?_
      rintro e w7 ⟨rfl, h7, k7⟩
      go_wp2_with (fail)
      go_ret
      rw [HY.out]
      exact ⟨rfl, Y, h7.of rfl, HM.out.2.trans' (H3.out.2.trans' k7), Rl.off (by simp [failsF]), HRW.out.1⟩
    subst hk0
    rw [if_pos rfl] at hout
    have hwr := BD.write_ok g2 hfs
    have he2 : r2.e = 0 := by rw [(BD.feeds_e hfs).1]; exact g2
    have hdn : dd = BD.doneF r2 := by rw [hdd]; unfold BD.doneF; simp [he2]
    have hol := BD.out_feeds sd R0
    rw [hfr] at hol
    simp only at hol
    have HFR := Lib.hid hfr
    obtain ⟨d1, hd1⟩ : ∃ d1 : Cl, ({ d with body := some r2 } : Cl) = d1 := ⟨_, rfl⟩
    have HY : Hid (x = in3 d1 o2 dd) := Lib.hid (by rw [HX2.out]; unfold in2; rw [hwr]; simp only; rw [if_pos trivial, hd1, hdn])
    have hd1f : d1.state = 1 ∧ d1.body = some r2 ∧ d1.Bd ∧ marr d1 Y = marr d Y := by rw [← hd1]; exact ⟨HB.out.2, rfl, bd_body HB.out.1 _, rfl⟩
    have HD1 := Lib.hid hd1f
    obtain ⟨al, hal⟩ : ∃ al, out = al := ⟨_, rfl⟩
    rw [hal] at hout hol HFR
    have hdrop : al.drop o1.length = o2 := by rw [hout, List.drop_left' rfl]
    have hall : al.length = o1.length + o2.length := by rw [hout, List.length_append]
    have ho1l : (o1.length : Int) ≤ al.length := by omega
    have hals : (al.length : Int) ≤ 1000000 := by omega
    have ho2l : (o2.length : Int) ≤ 1000000 := by omega
    have h3 := H3.out.1.of hd1f.2.2.2
    subst hal
    clear c0 c1 c2 c3 c4 c5 c6 c7 c8 c9 c10 c11 c12 c13 c14 c15 c16 c17 c18 c19 c20 c21 c22 c23 c24 c25 hf
    obtain ⟨c0, c1, c2, c3, c4, c5, c6, c7, c8, c9, c10, c11, c12, c13, c14, c15, c16, c17, c18, c19, c20, c21, c22, c23, c24, c25⟩ := (h3).cells
    have hf := (h3).free
    obtain ⟨hYst, hYs1, hYs2, hYl, hYnew, hYn, hYnl, hYseen, hYo1, hYo2⟩ := HK.out
    rw [hYst] at c19
    rw [hYn] at c22
    rw [hYseen] at c23
    have H4 := Lib.hid (And.intro h3 H3.out.2)
    have u1 := hd1f.2.2.1.f0
    have u2 := hd1f.2.2.1.g0
    have u3 := hd1f.2.2.1.g1
    have u4 := hd1f.2.2.1.l1
    have u5 := hd1f.2.2.1.p0
    have u6 := hd1f.2.2.1.p1
    have u7 := hd1f.2.2.1.q0
    have u8 := hd1f.2.2.1.q1
    have u9 := hd1f.2.2.1.o0
    have u10 := hd1f.2.2.1.o1
    clear h3 hYst hYs1 hYs2 hYl hYnew hYn hYseen hYo1 hYo2 H3 hd1f hd1 hwr hfs hfr hdd hdn hol he2 g1 g2 g3
    have HAL := Lib.hid (And.intro hall hout)
    clear hall hout hsd
    obtain ⟨m, hm, hm2⟩ : ∃ m : Nat, min d1.skip (o2.length : Int) = (m : Int) ∧ m ≤ o2.length := ⟨(min d1.skip (o2.length : Int)).toNat, by omega, by omega⟩
    have hmk : (m : Int) ≤ d1.skip := by omega
    have hml : (m : Int) ≤ o2.length := by omega
    obtain ⟨t, ht⟩ : ∃ t, o2.drop m = t := ⟨_, rfl⟩
    have htl : (t.length : Int) ≤ 1000000 := by rw [← ht, List.length_drop]; omega
    obtain ⟨d2, hd2⟩ : ∃ d2 : Cl, ({ d1 with skip := d1.skip - m } : Cl) = d2 := ⟨_, rfl⟩
    have HTF : Hid (toldF d1 o2 = told2 d2 t) := Lib.hid (by unfold toldF; rw [hm, hd2]; show told2 d2 (o2.drop m) = _; rw [ht])
    obtain ⟨Y2, hY2⟩ : ∃ Y2 : Mx, ({ Y with seen := out.length } : Mx) = Y2 := ⟨_, rfl⟩
    have hw1 : IntKind.i64.wrap (d1.skip - (m : Int)) = d1.skip - m := by rw [IntKind.wrap_i64]; omega
    go_upto_region 27 with (fail)
    have h5 := (H4.out.1.set23 out.length).set24 (d1.skip - m)
    rw [hd2, hY2] at h5
    have k5 : Kept [b] W ((wc.setCell ⟨b, 23, none⟩ (I out.length)).setCell ⟨b, 24, none⟩ (I (d1.skip - m))) := (H4.out.2.setCell (.inl (by simp)) _).setCell (.inl (by simp)) _
    obtain ⟨w5, hw5⟩ : ∃ w5, (wc.setCell ⟨b, 23, none⟩ (I out.length)).setCell ⟨b, 24, none⟩ (I (d1.skip - m)) = w5 := ⟨_, rfl⟩
    have hw5' : (wc.setCell ⟨b, 23, none⟩ (Value.int .i64 out.length)).setCell ⟨b, 24, none⟩ (Value.int .i64 (d1.skip - m)) = w5 := hw5
    rw [hw5] at h5 k5
    rw [hw5']
    (try rw [ht])
    clear c0 c1 c2 c3 c4 c5 c6 c7 c8 c9 c10 c11 c12 c13 c14 c15 c16 c17 c18 c19 c20 c21 c22 c23 c24 c25 hf
    clear hw5 hw5' hw1 hdrop
    have hd2f : d2.state = 1 ∧ d2.body = some r2 ∧ d2.limit = d1.limit ∧ d2.got = d1.got ∧ d2.left = d1.left ∧ d2.total = d1.total := by rw [← hd2]; exact ⟨HD1.out.1, HD1.out.2.1, rfl, rfl, rfl, rfl⟩
    have hY2f : Y2.raw = Y.raw ∧ Y2.known = Y.known ∧ Y2.hst = Y.hst ∧ Y2.nv = Y.nv ∧ Y2.vv = Y.vv ∧ Y2.n = Y.n ∧ Y2.seen = out.length := by rw [← hY2]; exact ⟨rfl, rfl, rfl, rfl, rfl, rfl, rfl⟩
    have HB2 : Hid d2.Bd := Lib.hid (by
      have q := HD1.out.2.2.1
      rw [← hd2]
      exact ⟨q.f0, q.f1, q.l1, q.t0, q.t1, q.r0, q.r1, q.w0, q.w1, q.g0, q.g1, q.o0, q.o1, q.n0, q.n1, q.y0, q.y1, q.a0, q.a1, q.k0, q.k1, q.b0, q.b1, q.s0, q.s1, (by show 0 ≤ d1.skip - (m : Int); omega), (by show d1.skip - (m : Int) ≤ 1048576; omega), q.q0, q.q1⟩)
    have HY2F := Lib.hid hY2f
    have HD2 := Lib.hid (And.intro hd2f.1 hd2f.2.1)
    obtain ⟨_, _, e1, e2, e3, e4⟩ := hd2f
    rw [← e1, ← e2] at u3
    rw [← e1] at u4
    rw [← e2] at u2
    rw [← e3] at u7 u8
    rw [← e1, ← e4] at u10
    rw [← e4] at u9
    clear e1 e2 e3 e4 hd2 hY2 hY2f hm ht hm2
    obtain ⟨c0, c1, c2, c3, c4, c5, c6, c7, c8, c9, c10, c11, c12, c13, c14, c15, c16, c17, c18, c19, c20, c21, c22, c23, c24, c25⟩ := (h5).cells
    have hf := (h5).free
    have H5 := Lib.hid (And.intro h5 k5)
    clear h5 k5
    by_cases hlim : d2.limit < d2.got + t.length
    · have HT : Hid (x = (failsF d2 193, [])) := Lib.hid (by rw [HY.out]; unfold in3; rw [HTF.out]; unfold told2; rw [if_pos hlim, if_neg (by simp [failsF])])
      go_quiet (fail)
      go_wp2_with (fail)
      refine (rfails_any b d2 Y2 193 _ (H5.out.1.drewN _)).mono ?_
      rintro e w7 ⟨rfl, h7, k7⟩
      go_wp2_with (fail)
      go_ret
      rw [HT.out]
      exact ⟨rfl, Y2, h7, HM.out.2.trans' ((H5.out.2.drewN _).trans' k7), Rl.off (by simp [failsF]), by rw [HY2F.out.1]; exact HRW.out.1⟩
    have hlimf : decide (d2.limit < d2.got + t.length) = false := decide_eq_false hlim
    go_quiet (fail)
    go_wp2_with (fail)
    have h6 : MAt (w5.drewN nq) b d2 Y2 := H5.out.1.drewN nq
    have k6 : Kept [b] W (w5.drewN nq) := H5.out.2.drewN nq
    clear c0 c1 c2 c3 c4 c5 c6 c7 c8 c9 c10 c11 c12 c13 c14 c15 c16 c17 c18 c19 c20 c21 c22 c23 c24 c25 hf
    obtain ⟨w6, hw6⟩ : ∃ w6, w5.drewN nq = w6 := ⟨_, rfl⟩
    rw [hw6] at h6 k6 ⊢
    clear hw6 H5
    obtain ⟨c0, c1, c2, c3, c4, c5, c6, c7, c8, c9, c10, c11, c12, c13, c14, c15, c16, c17, c18, c19, c20, c21, c22, c23, c24, c25⟩ := (h6).cells
    have hf := (h6).free
    have H6 := Lib.hid (And.intro h6 k6)
    clear h6 k6
    by_cases hbad : (0 ≤ d2.left ∧ d2.left < t.length) ∨ (0 ≤ d2.total ∧ d2.total < d2.got + t.length)
    · have HT : Hid (x = (failsF d2 192, [])) := Lib.hid (by rw [HY.out]; unfold in3; rw [HTF.out]; unfold told2; rw [if_neg (by omega : ¬ d2.limit < d2.got + t.length), if_pos hbad, if_neg (by simp [failsF])])
      have hways : (0 ≤ d2.left ∧ d2.left < t.length) ∨ (0 ≤ d2.left ∧ ¬ d2.left < t.length ∧ 0 ≤ d2.total ∧ d2.total < d2.got + t.length) ∨ (d2.left < 0 ∧ 0 ≤ d2.total ∧ d2.total < d2.got + t.length) := by omega
      clear hbad
      rcases hways with ⟨a1, a2⟩ | ⟨a1, a2, a3, a4⟩ | ⟨a1, a3, a4⟩
      · go_quiet (fail)
        go_wp2_with (fail)
        refine (rfails_any b d2 Y2 192 _ (H6.out.1.drewN _)).mono ?_
        rintro e w7 ⟨rfl, h7, k7⟩
        go_wp2_with (fail)
        go_ret
        rw [HT.out]
        exact ⟨rfl, Y2, h7, HM.out.2.trans' ((H6.out.2.drewN _).trans' k7), Rl.off (by simp [failsF]), by rw [HY2F.out.1]; exact HRW.out.1⟩
      · have a2f : decide (d2.left < t.length) = false := decide_eq_false a2
        go_quiet (fail)
        go_wp2_with (fail)
        refine (rfails_any b d2 Y2 192 _ (H6.out.1.drewN _)).mono ?_
        rintro e w7 ⟨rfl, h7, k7⟩
        go_wp2_with (fail)
        go_ret
        rw [HT.out]
        exact ⟨rfl, Y2, h7, HM.out.2.trans' ((H6.out.2.drewN _).trans' k7), Rl.off (by simp [failsF]), by rw [HY2F.out.1]; exact HRW.out.1⟩
      · have a1f : decide (0 ≤ d2.left) = false := decide_eq_false (by omega)
        go_quiet (fail)
        go_wp2_with (fail)
        refine (rfails_any b d2 Y2 192 _ (H6.out.1.drewN _)).mono ?_
        rintro e w7 ⟨rfl, h7, k7⟩
        go_wp2_with (fail)
        go_ret
        rw [HT.out]
        exact ⟨rfl, Y2, h7, HM.out.2.trans' ((H6.out.2.drewN _).trans' k7), Rl.off (by simp [failsF]), by rw [HY2F.out.1]; exact HRW.out.1⟩
    have HT0 : Hid (toldF d1 o2 = (told3 d2 t, t)) := Lib.hid (by rw [HTF.out]; unfold told2; rw [if_neg (by omega : ¬ d2.limit < d2.got + t.length), if_neg hbad])
    have hways : (0 ≤ d2.left ∧ ¬ d2.left < t.length ∧ d2.total < 0) ∨ (0 ≤ d2.left ∧ ¬ d2.left < t.length ∧ 0 ≤ d2.total ∧ ¬ d2.total < d2.got + t.length) ∨ (d2.left < 0 ∧ d2.total < 0) ∨ (d2.left < 0 ∧ 0 ≤ d2.total ∧ ¬ d2.total < d2.got + t.length) := by omega
    have HNB := Lib.hid hbad
    clear hbad
    go_cut [173] from 139 to 173 (fun v173 wx => v173 = .bool false ∧ MAt wx b d2 Y2 ∧ Kept [b] W wx)
    case first =>
      rcases hways with ⟨a1, a2, a3⟩ | ⟨a1, a2, a3, a4⟩ | ⟨a1, a3⟩ | ⟨a1, a3, a4⟩
      · have a2f : decide (d2.left < t.length) = false := decide_eq_false a2
        have a3f : decide (0 ≤ d2.total) = false := decide_eq_false (by omega)
        go_quiet (fail)
        go_wp2_with (fail)
        go_meet
        exact ⟨rfl, H6.out.1.drewN _, H6.out.2.drewN _⟩
      · have a2f : decide (d2.left < t.length) = false := decide_eq_false a2
        have a4f : decide (d2.total < d2.got + t.length) = false := decide_eq_false a4
        go_quiet (fail)
        go_wp2_with (fail)
        go_meet
        exact ⟨rfl, H6.out.1.drewN _, H6.out.2.drewN _⟩
      · have a1f : decide (0 ≤ d2.left) = false := decide_eq_false (by omega)
        have a3f : decide (0 ≤ d2.total) = false := decide_eq_false (by omega)
        go_quiet (fail)
        go_wp2_with (fail)
        go_meet
        exact ⟨rfl, H6.out.1.drewN _, H6.out.2.drewN _⟩
      · have a1f : decide (0 ≤ d2.left) = false := decide_eq_false (by omega)
        have a4f : decide (d2.total < d2.got + t.length) = false := decide_eq_false a4
        go_quiet (fail)
        go_wp2_with (fail)
        go_meet
        exact ⟨rfl, H6.out.1.drewN _, H6.out.2.drewN _⟩
    case rest =>
    obtain ⟨rfl, h7, k7⟩ := hcut
    clear c0 c1 c2 c3 c4 c5 c6 c7 c8 c9 c10 c11 c12 c13 c14 c15 c16 c17 c18 c19 c20 c21 c22 c23 c24 c25 hf
    obtain ⟨c0, c1, c2, c3, c4, c5, c6, c7, c8, c9, c10, c11, c12, c13, c14, c15, c16, c17, c18, c19, c20, c21, c22, c23, c24, c25⟩ := (h7).cells
    have hf := (h7).free
    have H7 := Lib.hid (And.intro h7 k7)
    clear h7 k7 H6
    go_upto_if 180 with (fail)
    go_cut [] from 176 to 189 (fun wx => MAt wx b (if 0 ≤ d2.left then { d2 with left := d2.left - t.length } else d2) Y2 ∧ Kept [b] W wx)
    case first =>
      by_cases a1 : 0 ≤ d2.left
      · have HL : Hid ((if 0 ≤ d2.left then { d2 with left := d2.left - t.length } else d2) = ({ d2 with left := d2.left - t.length } : Cl)) := Lib.hid (if_pos a1)
        go_wp2_with (fail)
        go_meet
        rw [HL.out]
        exact ⟨H7.out.1.set25 _, H7.out.2.setCell (.inl (by simp)) _⟩
      · have HL : Hid ((if 0 ≤ d2.left then { d2 with left := d2.left - t.length } else d2) = d2) := Lib.hid (if_neg a1)
        have a1f : decide (0 ≤ d2.left) = false := decide_eq_false a1
        go_wp2_with (fail)
        go_meet
        rw [HL.out]
        exact ⟨H7.out.1, H7.out.2⟩
    case rest =>
    obtain ⟨h8, k8⟩ := hcut
    obtain ⟨d3, hd3⟩ : ∃ d3 : Cl, (if 0 ≤ d2.left then { d2 with left := d2.left - t.length } else d2) = d3 := ⟨_, rfl⟩
    have hg3 : d3.got = d2.got := by rw [← hd3]; split <;> rfl
    have HT3 : Hid (told3 d2 t = { d3 with got := d2.got + t.length }) := Lib.hid (by unfold told3; rw [hd3])
    have hbT := told_bd (c := d1) HD1.out.2.2.1 o2
    rw [HT0.out] at hbT
    have hbT3 : (told3 d2 t).state = 1 ∧ (told3 d2 t).body = some r2 := by
      unfold told3
      split <;> exact HD2.out
    have HBT := Lib.hid (And.intro hbT.1 hbT3)
    clear hbT hbT3
    rw [hd3] at h8
    clear c0 c1 c2 c3 c4 c5 c6 c7 c8 c9 c10 c11 c12 c13 c14 c15 c16 c17 c18 c19 c20 c21 c22 c23 c24 c25 hf
    obtain ⟨c0, c1, c2, c3, c4, c5, c6, c7, c8, c9, c10, c11, c12, c13, c14, c15, c16, c17, c18, c19, c20, c21, c22, c23, c24, c25⟩ := (h8).cells
    have hf := (h8).free
    rw [hg3] at c9
    have H8 := Lib.hid (And.intro h8 k8)
    clear h8 k8 H7 hd3 hg3 hways
    have h9 := H8.out.1.set9 (d2.got + t.length)
    rw [← HT3.out] at h9
    have k9 := H8.out.2.setCell (.inl (by simp) : (⟨b, 9, none⟩ : Addr).block ∈ [b] ∨ _) (I (d2.got + t.length))
    have H9 := Lib.hid (And.intro h9 k9)
    clear h9 k9
    cases hdd : dd with
    | true =>
      have HT : Hid (x = (endsF (told3 d2 t), t)) := Lib.hid (by rw [HY.out]; unfold in3; rw [HT0.out, if_pos ⟨HBT.out.2.1, hdd⟩])
      (try rw [hdd])
      clear hdd
      go_wp2_with (fail)
      refine (rends_any b _ Y2 _ H9.out.1 HBT.out.1).mono ?_
      rintro e wz ⟨rfl, hz, kz⟩
      go_wp2_with (fail)
      go_ret
      rw [HT.out]
      exact ⟨rfl, Y2, hz, HM.out.2.trans' (H9.out.2.trans' kz), Rl.off (ends_ne1 _), by rw [HY2F.out.1]; exact HRW.out.1⟩
    | false =>
      have HT : Hid (x = (told3 d2 t, t)) := Lib.hid (by rw [HY.out]; unfold in3; rw [HT0.out, if_neg (by rw [hdd]; simp)])
      (try rw [hdd])
      clear hdd
      go_wp2_with (fail)
      go_ret
      rw [HT.out]
      refine ⟨rfl, Y2, H9.out.1, HM.out.2.trans' H9.out.2, ⟨fun _ e => (by rw [HBT.out.2.2] at e; cases e), fun _ rr e => ?_⟩, by rw [HY2F.out.1]; exact HRW.out.1⟩
      rw [HBT.out.2.2] at e
      injection e with e
      subst e
      obtain ⟨hYst, hYs1, hYs2, hYl, hYnew, hYn, hYnl, hYseen, hYo1, hYo2⟩ := HK.out
      obtain ⟨y1, y2, y3, y4, y5, y6, y7⟩ := HY2F.out
      have hlt9 := H9.out.2.size
      refine ⟨by rw [y2]; exact HKN.out, ⟨⟨h, n, R0, out, by rw [y3]; exact hYst, by rw [y4]; exact strs_keptB hYs1 H9.out.2 (fun q hq hm => (hYo1 q hq).1 (by simp at hm; subst hm; exact HbT.out)), by rw [y5]; exact strs_keptB hYs2 H9.out.2 (fun q hq hm => (hYo2 q hq).1 (by simp at hm; subst hm; exact HbT.out)), hYl, hYnew, by rw [y6]; exact hYn, by rw [y1]; exact hYnl, by rw [y1, HSD.out]; exact HFR.out, y7⟩, by rw [y4]; exact fun q hq => ⟨(hYo1 q hq).1, Nat.lt_of_lt_of_le (hYo1 q hq).2 hlt9⟩, by rw [y5]; exact fun q hq => ⟨(hYo2 q hq).1, Nat.lt_of_lt_of_le (hYo2 q hq).2 hlt9⟩⟩⟩
  | none =>
    obtain ⟨n1, n2, n3⟩ := HRlW.out.no H1.out (by rw [← HF.out.2.2.1]; exact hbd)
    obtain ⟨hd, hhd⟩ : ∃ hd, y.raw ++ s = hd := ⟨_, rfl⟩
    obtain ⟨y1, hy1⟩ : ∃ y1 : Mx, ({ y with raw := y.raw ++ s } : Mx) = y1 := ⟨_, rfl⟩
    have hy1f : y1.raw = hd ∧ y1.known = false ∧ y1.seen = 0 := by rw [← hy1]; exact ⟨hhd, n1, n3⟩
    have HY1 := Lib.hid hy1f
    have hlen : hd.length ≤ 1000000 := by rw [← hhd, List.length_append]; omega
    have HLN : Hid (hd.length ≤ y.raw.length + s.length) := Lib.hid (by rw [← hhd, List.length_append]; omega)
    have hX2 : Hid (x = in1n d hd) := Lib.hid (by rw [hX1.out]; unfold in1; rw [hbd]; simp only; rw [HF.out.2.2.2, ← n2, hhd])
    obtain ⟨pr, hpr⟩ : ∃ pr, parseF hd = pr := ⟨_, rfl⟩
    have HPR := Lib.hid hpr
    obtain ⟨dh, hdh⟩ : ∃ dh : Cl, ({ d with head := hd } : Cl) = dh := ⟨_, rfl⟩
    have HPre : Hid (dh.Pre ∧ dh.state = 1 ∧ dh.body = none ∧ dh.head = hd ∧ dh.Bd) := Lib.hid (by
      obtain ⟨f1, f2, f3, f4⟩ := HF.out
      have h := f1.pre f2
      rw [← hdh]
      exact ⟨⟨bd_head h.bd hd, h.tr, h.ho, h.ta, h.bo⟩, f2, hbd, rfl, bd_head h.bd hd⟩)
    have hX3 : Hid (x = in1p dh hd pr) := Lib.hid (by rw [hX2.out, in1n_p, hdh, HPR.out])
    rw [hy1] at h3
    have h3' : MAt W b dh y1 := h3.of (by rw [← hdh]; rfl)
    have HM0 := Lib.hid (And.intro h3' k3)
    clear n1 n2 n3 hhd hy1 hy1f hbd hpr hdh h3 k3
    obtain ⟨c0, c1, c2, c3, c4, c5, c6, c7, c8, c9, c10, c11, c12, c13, c14, c15, c16, c17, c18, c19, c20, c21, c22, c23, c24, c25⟩ := (h3').cells
    have hf := (h3').free
    rw [HY1.out.1] at c17
    rw [HY1.out.2.1] at c18
    have hWb := h3'.lt
    clear h3'
    have HP := Lib.hid (rparse_any hd W (by omega) pr HPR.out)
    go_wp2_with (fail)
    refine HP.out.mono ?_
    rintro e w4 ⟨v1, v2, rfl, o1, o2, k4⟩
    obtain ⟨p1, cp1, hv1⟩ := own_slice o1
    obtain ⟨p2, cp2, hv2⟩ := own_slice o2
    have hbx := heap_new w4 (.cells #[I pr.head.st, v1, v2] HdT)
    have k5 : Kept [] W (w4.alloc (.cells #[I pr.head.st, v1, v2] HdT)) := k4.alloc _
    have hg4 : W.heap.size ≤ w4.heap.size := k4.size
    have h5 := HM0.out.1.kept k5 (by simp)
    have o1' := o1.kept ((Kept.refl [] w4).alloc (.cells #[I pr.head.st, v1, v2] HdT))
    have o2' := o2.kept ((Kept.refl [] w4).alloc (.cells #[I pr.head.st, v1, v2] HdT))
    clear c0 c1 c2 c3 c4 c5 c6 c7 c8 c9 c10 c11 c12 c13 c14 c15 c16 c17 c18 c19 c20 c21 c22 c23 c24 c25 hf
    clear o1 o2 k4
    subst hv1 hv2
    go_upto_region 8 with (fail)
    obtain ⟨V, hVe⟩ : ∃ V, w4.alloc (.cells #[I pr.head.st, .slice p1 pr.head.ns.length cp1, .slice p2 pr.head.vs.length cp2] HdT) = V := ⟨_, rfl⟩
    have hVe' : w4.alloc (.cells #[Value.int .i64 pr.head.st, .slice p1 pr.head.ns.length cp1, .slice p2 pr.head.vs.length cp2] HdT) = V := hVe
    rw [hVe] at hbx k5 h5 o1' o2'
    (try first | rw [hVe'] | rw [hVe])
    (try rw [hVe])
    generalize w4.heap.size = g at hbx hg4 ⊢
    have hgb : g ≠ b := by omega
    obtain ⟨z0, z1, z2⟩ := cells3 hbx
    obtain ⟨c0, c1, c2, c3, c4, c5, c6, c7, c8, c9, c10, c11, c12, c13, c14, c15, c16, c17, c18, c19, c20, c21, c22, c23, c24, c25⟩ := (h5).cells
    have hf := (h5).free
    rw [HY1.out.1] at c17
    rw [HY1.out.2.1] at c18
    have H5 := Lib.hid (And.intro h5 k5)
    have HO := Lib.hid (And.intro o1' o2')
    clear h5 o1' o2' hVe hVe' hbx k5
    cases pr with
    | on a n => exact absurd HPR.out (by unfold parseF; exact runF_on _ _ _ _ _ _)
    | fail e =>
      by_cases he : e = 172
      · subst he
        have hY : Hid (x = (dh, [])) := Lib.hid (by rw [hX3.out]; rfl)
        have hee : ((HR.fail 172).err : Int) = 172 := rfl
        go_wp2_with (fail)
        go_ret
        rw [hY.out]
        exact ⟨rfl, y1, H5.out.1, HM0.out.2.trans' (H5.out.2.mono (by simp)), ⟨fun _ _ => ⟨HY1.out.2.1, by rw [HY1.out.1, HPre.out.2.2.2.1], HY1.out.2.2⟩, fun _ r hr => (by rw [HPre.out.2.2.1] at hr; cases hr)⟩, by rw [HY1.out.1]; exact HLN.out⟩
      · have hY : Hid (x = (failsF dh 192, [])) := Lib.hid (by rw [hX3.out]; show (if e = 172 then (dh, []) else (failsF dh 192, [])) = _; rw [if_neg he])
        have hee : (((HR.fail e).err : Int) == 172) = false := by simp [HR.err]; omega
        have he0 : (((HR.fail e).err : Int) != 0) = true := by have := run_err hd 3000 zeroH 0 e HPR.out; simp [HR.err]; omega
        clear he
        go_wp2_with (fail)
        refine (rfails_any b dh y1 192 V H5.out.1).mono ?_
        rintro e w7 ⟨rfl, h7, k7⟩
        go_wp2_with (fail)
        go_ret
        rw [hY.out]
        exact ⟨rfl, y1, h7, HM0.out.2.trans' ((H5.out.2.mono (by simp)).trans' k7), Rl.off (by simp [failsF]), by rw [HY1.out.1]; exact HLN.out⟩
    | done h n =>
      obtain ⟨p1', p2', p3', p4', p5', p6', _⟩ := parse_ok HPR.out
      have hvals := run_vals hd 3000 zeroH h 0 n (by simp [zeroH]) HPR.out
      have hnl : n ≤ hd.length := p6'
      have e0 : ((HR.done h n).err : Int) = 0 := rfl
      have e1 : ((HR.done h n).many : Int) = n := rfl
      have e2 : (HR.done h n).head = h := rfl
      rw [e2] at z0 z1 z2 HO ⊢
      rw [e1]
      obtain ⟨nv, hnv⟩ : ∃ nv, Value.slice p1 h.ns.length cp1 = nv := ⟨_, rfl⟩
      obtain ⟨vv, hvv⟩ : ∃ vv, Value.slice p2 h.vs.length cp2 = vv := ⟨_, rfl⟩
      obtain ⟨y2, hy2⟩ : ∃ y2 : Mx, ({ y1 with hst := h.st, nv := nv, vv := vv, n := n, known := true } : Mx) = y2 := ⟨_, rfl⟩
      have HY2 : Hid (y2.raw = hd ∧ y2.known = true ∧ y2.seen = 0 ∧ y2.hst = h.st ∧ y2.nv = nv ∧ y2.vv = vv ∧ y2.n = n) := Lib.hid (by rw [← hy2]; exact ⟨HY1.out.1, rfl, HY1.out.2.2, rfl, rfl, rfl, rfl⟩)
      have hV2 := ((((H5.out.1.set19 h.st).set20 nv).set21 vv).set22 n).set18 true
      have hk2 : Kept [b] V (((((V.setCell ⟨b, 19, none⟩ (I h.st)).setCell ⟨b, 20, none⟩ nv).setCell ⟨b, 21, none⟩ vv).setCell ⟨b, 22, none⟩ (I n)).setCell ⟨b, 18, none⟩ (.bool true)) := ((((((Kept.refl [b] V).setCell (.inl (by simp)) _).setCell (.inl (by simp)) _).setCell (.inl (by simp)) _).setCell (.inl (by simp)) _).setCell (.inl (by simp)) _)
      have hy2' : ({ y1 with hst := (h.st : Int), nv := nv, vv := vv, n := (n : Int), known := true } : Mx) = y2 := hy2
      rw [hy2'] at hV2
      have HNV := Lib.hid hnv
      have HVV := Lib.hid hvv
      clear hnv hvv
      go_upto_region 16 with (fail)
      rw [HNV.out, HVV.out]
      have hnv := HNV.out
      have hvv := HVV.out
      clear HNV HVV
      obtain ⟨V2, hVe⟩ : ∃ V2, (((((V.setCell ⟨b, 19, none⟩ (I h.st)).setCell ⟨b, 20, none⟩ nv).setCell ⟨b, 21, none⟩ vv).setCell ⟨b, 22, none⟩ (I n)).setCell ⟨b, 18, none⟩ (.bool true)) = V2 := ⟨_, rfl⟩
      rw [hVe] at hV2 hk2
      rw [hVe]
      have hN1 : StrsAt V2 y2.nv h.ns ∧ (∀ q, y2.nv.ownBlock = some q → q ∉ T ∧ q < V2.heap.size) := by
        have q1 := HO.out.1
        rw [hnv] at q1
        rw [HY2.out.2.2.2.2.1]
        refine ⟨strs_keptB (StrsAt.of_texts (q1.texts (by have := p1'.few; omega))) hk2 (fun q hq hm => ?_), fun q hq => ⟨fun hm => ?_, ?_⟩⟩
        · have := q1.lt q hq; simp at hm; omega
        · have := q1.lt q hq; have := HTW.out q hm; omega
        · have := q1.lt q hq; have := hk2.size; omega
      have hN2 : StrsAt V2 y2.vv h.vs ∧ (∀ q, y2.vv.ownBlock = some q → q ∉ T ∧ q < V2.heap.size) := by
        have q1 := HO.out.2
        rw [hvv] at q1
        rw [HY2.out.2.2.2.2.2.1]
        refine ⟨strs_keptB (StrsAt.of_texts (q1.texts (by have := p1'.few; have := p1'.same; omega))) hk2 (fun q hq hm => ?_), fun q hq => ⟨fun hm => ?_, ?_⟩⟩
        · have := q1.lt q hq; simp at hm; omega
        · have := q1.lt q hq; have := HTW.out q hm; omega
        · have := q1.lt q hq; have := hk2.size; omega
      obtain ⟨d1, okb, hres⟩ : ∃ d1 okb, headsF dh h = (d1, okb) := ⟨_, _, rfl⟩
      have hX4 : Hid (x = if okb = true then (match d1.body with | some r => in2 d1 r (hd.drop n) | none => (d1, [])) else (d1, [])) := Lib.hid (by
        rw [hX3.out]; show in1h dh hd h n = _; unfold in1h; rw [hres]; cases okb <;> rfl)
      have HHD := Lib.hid (rheads_any b dh y2 h V2 hV2 HPre.out.2.2.2.2 hN1.1 hN2.1 HY2.out.2.2.2.1 (fun v hv => by have := hvals v hv; omega))
      have hok := headsF_ok HPre.out.1 HPre.out.2.1 h
      have hno := heads_no dh h
      have hyes := heads_yes dh h
      rw [hres] at hok hno hyes HHD
      have HOK := Lib.hid (And.intro hok (And.intro hno hyes))
      have HN := Lib.hid (And.intro hN1 (And.intro hN2 hnl))
      have HKV := Lib.hid (And.intro (HM0.out.2.trans' (H5.out.2.mono (by simp : ∀ x ∈ ([] : List Nat), x ∈ [b]))) hk2)
      have HVL : Hid (∀ v ∈ h.vs, v.length ≤ 4611686018427387904) := Lib.hid fun v hv => by have := hvals v hv; omega
      clear p1' p2' p3' p4' p5' p6' hvals hres hok hno hyes hy2 hy2' hV2 hk2 hVe hN1 hN2 hnl z0 z1 z2 HO H5 hnv hvv
      clear c0 c1 c2 c3 c4 c5 c6 c7 c8 c9 c10 c11 c12 c13 c14 c15 c16 c17 c18 c19 c20 c21 c22 c23 c24 c25 hf
      go_wp2_with (fail)
      refine HHD.out.mono ?_
      rintro e w5 ⟨rfl, h6, k6⟩
      have HW5 := Lib.hid (And.intro h6 k6)
      clear h6 k6
      cases okb with
      | false =>
        have hY : Hid (x = (d1, [])) := Lib.hid (by rw [hX4.out]; rfl)
        go_wp2_with (fail)
        go_ret
        rw [hY.out]
        exact ⟨rfl, y2, HW5.out.1, HKV.out.1.trans' (HKV.out.2.trans' HW5.out.2), Rl.off (HOK.out.2.1 (by trivial)), by rw [HY2.out.1]; exact HLN.out⟩
      | true =>
        obtain ⟨g1, g2, r, g3, g4, g5, g6⟩ := HOK.out.1.1 rfl
        obtain ⟨r', q1, q2⟩ := HOK.out.2.2 rfl
        have hrr : r' = r := by
          have : d1.body = some r' := q2
          rw [g3] at this; injection this with this; exact this.symm
        subst hrr
        obtain ⟨d, hdd⟩ : ∃ d, d1 = d := ⟨_, rfl⟩
        obtain ⟨s1, hs1⟩ : ∃ s1, hd.drop n = s1 := ⟨_, rfl⟩
        have HX2 : Hid (x = in2 d r' s1) := Lib.hid (by rw [hX4.out, if_pos rfl, g3, hs1, hdd])
        have hs1l : (s1.length : Int) ≤ 1000000 := by rw [← hs1, List.length_drop]; omega
        have HR : Hid (r'.Ok ∧ r'.e = 0 ∧ r'.rest = []) := Lib.hid ⟨g4, g5, g6⟩
        have HB : Hid (d.Bd ∧ d.state = 1) := Lib.hid (by rw [← hdd]; exact ⟨g1.bd, g2⟩)
        obtain ⟨W, hWW⟩ : ∃ W, w5 = W := ⟨_, rfl⟩
        obtain ⟨Y, hYY⟩ : ∃ Y, y2 = Y := ⟨_, rfl⟩
        obtain ⟨r, hrr⟩ : ∃ r, r' = r := ⟨_, rfl⟩
        obtain ⟨R0, hR0⟩ : ∃ R0, r' = R0 := ⟨_, rfl⟩
        obtain ⟨o1, ho1⟩ : ∃ o1 : List UInt8, [] = o1 := ⟨_, rfl⟩
        have HM : Hid (MAt W b d Y ∧ Kept [b] w W) := Lib.hid (by rw [← hWW, ← hYY, ← hdd]; exact ⟨HW5.out.1, HKV.out.1.trans' (HKV.out.2.trans' HW5.out.2)⟩)
        have HK : Hid (Y.hst = h.st ∧ StrsAt W Y.nv h.ns ∧ StrsAt W Y.vv h.vs ∧ (∀ v ∈ h.vs, v.length ≤ 4611686018427387904) ∧ BD.newF h.st h.ns h.vs = (some R0, 0) ∧ Y.n = n ∧ n ≤ Y.raw.length ∧ Y.seen = o1.length ∧ (∀ q, Y.nv.ownBlock = some q → q ∉ T ∧ q < W.heap.size) ∧ (∀ q, Y.vv.ownBlock = some q → q ∉ T ∧ q < W.heap.size)) := Lib.hid (by
          obtain ⟨⟨a1, a2⟩, ⟨a3, a4⟩, a5⟩ := HN.out
          have k5 := HW5.out.2
          have kl := k5.size
          rw [← hWW, ← hYY, ← hR0, ← ho1]
          exact ⟨HY2.out.2.2.2.1, strs_keptB a1 k5 (fun q hq hm => (a2 q hq).1 (by simp at hm; subst hm; exact HbT.out)), strs_keptB a3 k5 (fun q hq hm => (a4 q hq).1 (by simp at hm; subst hm; exact HbT.out)), HVL.out, q1, HY2.out.2.2.2.2.2.2, by rw [HY2.out.1]; exact a5, HY2.out.2.2.1, fun q hq => ⟨(a2 q hq).1, by have := (a2 q hq).2; omega⟩, fun q hq => ⟨(a4 q hq).1, by have := (a4 q hq).2; omega⟩⟩)
        have HRW : Hid (Y.raw.length ≤ y.raw.length + s.length ∧ y.raw.length + s.length ≤ 1000000) := Lib.hid (by rw [← hYY, HY2.out.1]; exact ⟨HLN.out, HS.out⟩)
        have HFE : Hid (∀ r2 o2 k, BD.feeds r s1 = (r2, o2, k) → BD.feeds R0 (Y.raw.drop n) = (r2, if k = 0 then o1 ++ o2 else [], k)) := Lib.hid fun r2 o2 k hq => by
          rw [← hrr] at hq
          rw [← hYY, HY2.out.1, hs1, ← hR0, ← ho1]
          rw [hq]
          by_cases hk : k = 0
          · rw [if_pos hk]; rfl
          · rw [if_neg hk]
            have := BD.feeds_err_out s1 r' (by rw [hq]; exact hk)
            rw [hq] at this
            rw [show o2 = [] from this]
        have HKN : Hid (Y.known = true) := Lib.hid (by rw [← hYY]; exact HY2.out.2.1)
        rw [hrr] at HX2 HR
        rw [hWW]
        clear hrr hR0 ho1 hs1 hdd hYY g1 g2 g3 g4 g5 g6 q1 q2 HOK HX hX4 hX3 hX2 HHD HP HW5 hWW
        go_wp2_with (fail)
        obtain ⟨c0, c1, c2, c3, c4, c5, c6, c7, c8, c9, c10, c11, c12, c13, c14, c15, c16, c17, c18, c19, c20, c21, c22, c23, c24, c25⟩ := (HM.out.1).cells
        have hf := (HM.out.1).free
        rw [HKN.out] at c18
        obtain ⟨hYst, hYs1, hYs2, hYl, hYnew, hYn, hYnl, hYseen, hYo1, hYo2⟩ := HK.out
        rw [hYst] at c19
        rw [hYn] at c22
        rw [hYseen] at c23
        have hrl : Y.raw.length ≤ 1000000 := by have := HRW.out; omega
        obtain ⟨sd, hsd⟩ : ∃ sd, Y.raw.drop n = sd := ⟨_, rfl⟩
        have hsdl : sd.length ≤ 1000000 := by rw [← hsd, List.length_drop]; omega
        have HRUN := Lib.hid (fun V (k : Kept [] W V) => BD.run_any BD.small_says h.st Y.nv Y.vv h.ns h.vs sd V (toBDS (hYs1.kept k)) (toBDS (hYs2.kept k)) (fun v hv => by have := hYl v hv; omega) hsdl R0 hYnew)
        have hYn0 : (n : Int) ≤ Y.raw.length := by omega
        have hYn1 : (0 : Int) ≤ n := by omega
        have HSD := Lib.hid hsd
        clear hYst hYs1 hYs2 hYl hYnew hYn hYseen hYo1 hYo2
        go_upto_region 18 with (fail)
        go_cut [8, 9, 10, 11] from 71 to 88 (fun v8 v9 v10 v11 wx => ∃ (out : List UInt8) (used : Int) (dd : Bool) (k : Int), v8 = S out ∧ v9 = I used ∧ v10 = .bool dd ∧ v11 = I k ∧ BD.RunIs R0 sd out used dd k ∧ Kept [] W wx)
        case first =>
          have hts : TR W b h Y n W := ⟨c19, c20, c21, c17, c22, Kept.refl _ _⟩
          clear c0 c1 c2 c3 c4 c5 c6 c7 c8 c9 c10 c11 c12 c13 c14 c15 c16 c17 c18 c19 c20 c21 c22 c23 c24 c25 hf
          go_region_held3 (fun w' => TR W b h Y n w')
            (first | assumption | exact TR.step hts ((Kept.refl _ _).drew) | exact TR.step (by assumption) k3 | exact TR.step (by assumption) ((Kept.refl _ _).drew))
            (first | (go_at_call 41; (with_reducible refine (HRUN.out _ (TR.kp (by assumption))).mono ?_); rintro e w3 ⟨out, used, dd, k, rfl, hrun, k3⟩; replace k3 := ofBD k3))
          rename_i hfin
          go_wp2
          go_meet
          exact ⟨out, used, dd, k, rfl, rfl, rfl, rfl, hrun, hfin.2.2.2.2.2⟩
        case rest =>
        obtain ⟨out, used, dd, k, rfl, rfl, rfl, rfl, hrun, kW⟩ := hcut
        have h3 := HM.out.1.kept kW (by simp)
        have kW2 : Kept [b] W wc := kW.mono (by simp)
        clear c0 c1 c2 c3 c4 c5 c6 c7 c8 c9 c10 c11 c12 c13 c14 c15 c16 c17 c18 c19 c20 c21 c22 c23 c24 c25 hf
        obtain ⟨c0, c1, c2, c3, c4, c5, c6, c7, c8, c9, c10, c11, c12, c13, c14, c15, c16, c17, c18, c19, c20, c21, c22, c23, c24, c25⟩ := (h3).cells
        have hf := (h3).free
        obtain ⟨hYst, hYs1, hYs2, hYl, hYnew, hYn, hYnl, hYseen, hYo1, hYo2⟩ := HK.out
        rw [hYst] at c19
        rw [hYn] at c22
        rw [hYseen] at c23
        have H3 := Lib.hid (And.intro h3 kW2)
        clear h3 kW2 kW hYst hYs1 hYs2 hYl hYnew hYn hYseen hYo1 hYo2 HRUN
        obtain ⟨r2, hfr, hdd, _⟩ := hrun
        obtain ⟨r2', o2, k', hfs⟩ : ∃ r2' o2 k', BD.feeds r s1 = (r2', o2, k') := ⟨_, _, _, rfl⟩
        have h4 := HFE.out _ _ _ hfs
        rw [hsd, hfr] at h4
        simp only [Prod.mk.injEq] at h4
        obtain ⟨q1, hout, q2⟩ := h4
        subst q1 q2
        obtain ⟨g1, g2, g3⟩ := HR.out
        by_cases hk0 : k = 0
        case neg =>
          have hwr := BD.write_err g2 hfs hk0
          have HY : Hid (x = (failsF { d with body := some { r2 with told := r.told, e := k } } (formedF k), [])) := Lib.hid (by rw [HX2.out]; unfold in2; rw [hwr]; simp only; rw [if_neg hk0])
          have hkb : (k != 0) = true := by simpa using hk0
          clear hk0 hwr hfs hfr hdd hout hsd
          go_wp2_with (fail)
          refine (shaped_any k _).mono ?_
          rintro e w6 ⟨rfl, rfl⟩
          go_wp2_with (fail)
          refine (rfails_any b _ Y (formedF k) _ H3.out.1).mono ?_
          rintro e w7 ⟨rfl, h7, k7⟩
          go_wp2_with (fail)
          go_ret
          rw [HY.out]
          exact ⟨rfl, Y, h7.of rfl, HM.out.2.trans' (H3.out.2.trans' k7), Rl.off (by simp [failsF]), HRW.out.1⟩
        subst hk0
        rw [if_pos rfl] at hout
        have hwr := BD.write_ok g2 hfs
        have he2 : r2.e = 0 := by rw [(BD.feeds_e hfs).1]; exact g2
        have hdn : dd = BD.doneF r2 := by rw [hdd]; unfold BD.doneF; simp [he2]
        have hol := BD.out_feeds sd R0
        rw [hfr] at hol
        simp only at hol
        have HFR := Lib.hid hfr
        obtain ⟨d1, hd1⟩ : ∃ d1 : Cl, ({ d with body := some r2 } : Cl) = d1 := ⟨_, rfl⟩
        have HY : Hid (x = in3 d1 o2 dd) := Lib.hid (by rw [HX2.out]; unfold in2; rw [hwr]; simp only; rw [if_pos trivial, hd1, hdn])
        have hd1f : d1.state = 1 ∧ d1.body = some r2 ∧ d1.Bd ∧ marr d1 Y = marr d Y := by rw [← hd1]; exact ⟨HB.out.2, rfl, bd_body HB.out.1 _, rfl⟩
        have HD1 := Lib.hid hd1f
        obtain ⟨al, hal⟩ : ∃ al, out = al := ⟨_, rfl⟩
        rw [hal] at hout hol HFR
        have hdrop : al.drop o1.length = o2 := by rw [hout, List.drop_left' rfl]
        have hall : al.length = o1.length + o2.length := by rw [hout, List.length_append]
        have ho1l : (o1.length : Int) ≤ al.length := by omega
        have hals : (al.length : Int) ≤ 1000000 := by omega
        have ho2l : (o2.length : Int) ≤ 1000000 := by omega
        have h3 := H3.out.1.of hd1f.2.2.2
        subst hal
        clear c0 c1 c2 c3 c4 c5 c6 c7 c8 c9 c10 c11 c12 c13 c14 c15 c16 c17 c18 c19 c20 c21 c22 c23 c24 c25 hf
        obtain ⟨c0, c1, c2, c3, c4, c5, c6, c7, c8, c9, c10, c11, c12, c13, c14, c15, c16, c17, c18, c19, c20, c21, c22, c23, c24, c25⟩ := (h3).cells
        have hf := (h3).free
        obtain ⟨hYst, hYs1, hYs2, hYl, hYnew, hYn, hYnl, hYseen, hYo1, hYo2⟩ := HK.out
        rw [hYst] at c19
        rw [hYn] at c22
        rw [hYseen] at c23
        have H4 := Lib.hid (And.intro h3 H3.out.2)
        have u1 := hd1f.2.2.1.f0
        have u2 := hd1f.2.2.1.g0
        have u3 := hd1f.2.2.1.g1
        have u4 := hd1f.2.2.1.l1
        have u5 := hd1f.2.2.1.p0
        have u6 := hd1f.2.2.1.p1
        have u7 := hd1f.2.2.1.q0
        have u8 := hd1f.2.2.1.q1
        have u9 := hd1f.2.2.1.o0
        have u10 := hd1f.2.2.1.o1
        clear h3 hYst hYs1 hYs2 hYl hYnew hYn hYseen hYo1 hYo2 H3 hd1f hd1 hwr hfs hfr hdd hdn hol he2 g1 g2 g3
        have HAL := Lib.hid (And.intro hall hout)
        clear hall hout hsd
        obtain ⟨m, hm, hm2⟩ : ∃ m : Nat, min d1.skip (o2.length : Int) = (m : Int) ∧ m ≤ o2.length := ⟨(min d1.skip (o2.length : Int)).toNat, by omega, by omega⟩
        have hmk : (m : Int) ≤ d1.skip := by omega
        have hml : (m : Int) ≤ o2.length := by omega
        obtain ⟨t, ht⟩ : ∃ t, o2.drop m = t := ⟨_, rfl⟩
        have htl : (t.length : Int) ≤ 1000000 := by rw [← ht, List.length_drop]; omega
        obtain ⟨d2, hd2⟩ : ∃ d2 : Cl, ({ d1 with skip := d1.skip - m } : Cl) = d2 := ⟨_, rfl⟩
        have HTF : Hid (toldF d1 o2 = told2 d2 t) := Lib.hid (by unfold toldF; rw [hm, hd2]; show told2 d2 (o2.drop m) = _; rw [ht])
        obtain ⟨Y2, hY2⟩ : ∃ Y2 : Mx, ({ Y with seen := out.length } : Mx) = Y2 := ⟨_, rfl⟩
        have hw1 : IntKind.i64.wrap (d1.skip - (m : Int)) = d1.skip - m := by rw [IntKind.wrap_i64]; omega
        go_upto_region 27 with (fail)
        have h5 := (H4.out.1.set23 out.length).set24 (d1.skip - m)
        rw [hd2, hY2] at h5
        have k5 : Kept [b] W ((wc.setCell ⟨b, 23, none⟩ (I out.length)).setCell ⟨b, 24, none⟩ (I (d1.skip - m))) := (H4.out.2.setCell (.inl (by simp)) _).setCell (.inl (by simp)) _
        obtain ⟨w5, hw5⟩ : ∃ w5, (wc.setCell ⟨b, 23, none⟩ (I out.length)).setCell ⟨b, 24, none⟩ (I (d1.skip - m)) = w5 := ⟨_, rfl⟩
        have hw5' : (wc.setCell ⟨b, 23, none⟩ (Value.int .i64 out.length)).setCell ⟨b, 24, none⟩ (Value.int .i64 (d1.skip - m)) = w5 := hw5
        rw [hw5] at h5 k5
        rw [hw5']
        (try rw [ht])
        clear c0 c1 c2 c3 c4 c5 c6 c7 c8 c9 c10 c11 c12 c13 c14 c15 c16 c17 c18 c19 c20 c21 c22 c23 c24 c25 hf
        clear hw5 hw5' hw1 hdrop
        have hd2f : d2.state = 1 ∧ d2.body = some r2 ∧ d2.limit = d1.limit ∧ d2.got = d1.got ∧ d2.left = d1.left ∧ d2.total = d1.total := by rw [← hd2]; exact ⟨HD1.out.1, HD1.out.2.1, rfl, rfl, rfl, rfl⟩
        have hY2f : Y2.raw = Y.raw ∧ Y2.known = Y.known ∧ Y2.hst = Y.hst ∧ Y2.nv = Y.nv ∧ Y2.vv = Y.vv ∧ Y2.n = Y.n ∧ Y2.seen = out.length := by rw [← hY2]; exact ⟨rfl, rfl, rfl, rfl, rfl, rfl, rfl⟩
        have HB2 : Hid d2.Bd := Lib.hid (by
          have q := HD1.out.2.2.1
          rw [← hd2]
          exact ⟨q.f0, q.f1, q.l1, q.t0, q.t1, q.r0, q.r1, q.w0, q.w1, q.g0, q.g1, q.o0, q.o1, q.n0, q.n1, q.y0, q.y1, q.a0, q.a1, q.k0, q.k1, q.b0, q.b1, q.s0, q.s1, (by show 0 ≤ d1.skip - (m : Int); omega), (by show d1.skip - (m : Int) ≤ 1048576; omega), q.q0, q.q1⟩)
        have HY2F := Lib.hid hY2f
        have HD2 := Lib.hid (And.intro hd2f.1 hd2f.2.1)
        obtain ⟨_, _, e1, e2, e3, e4⟩ := hd2f
        rw [← e1, ← e2] at u3
        rw [← e1] at u4
        rw [← e2] at u2
        rw [← e3] at u7 u8
        rw [← e1, ← e4] at u10
        rw [← e4] at u9
        clear e1 e2 e3 e4 hd2 hY2 hY2f hm ht hm2
        obtain ⟨c0, c1, c2, c3, c4, c5, c6, c7, c8, c9, c10, c11, c12, c13, c14, c15, c16, c17, c18, c19, c20, c21, c22, c23, c24, c25⟩ := (h5).cells
        have hf := (h5).free
        have H5 := Lib.hid (And.intro h5 k5)
        clear h5 k5
        by_cases hlim : d2.limit < d2.got + t.length
        · have HT : Hid (x = (failsF d2 193, [])) := Lib.hid (by rw [HY.out]; unfold in3; rw [HTF.out]; unfold told2; rw [if_pos hlim, if_neg (by simp [failsF])])
          go_quiet (fail)
          go_wp2_with (fail)
          refine (rfails_any b d2 Y2 193 _ (H5.out.1.drewN _)).mono ?_
          rintro e w7 ⟨rfl, h7, k7⟩
          go_wp2_with (fail)
          go_ret
          rw [HT.out]
          exact ⟨rfl, Y2, h7, HM.out.2.trans' ((H5.out.2.drewN _).trans' k7), Rl.off (by simp [failsF]), by rw [HY2F.out.1]; exact HRW.out.1⟩
        have hlimf : decide (d2.limit < d2.got + t.length) = false := decide_eq_false hlim
        go_quiet (fail)
        go_wp2_with (fail)
        have h6 : MAt (w5.drewN nq) b d2 Y2 := H5.out.1.drewN nq
        have k6 : Kept [b] W (w5.drewN nq) := H5.out.2.drewN nq
        clear c0 c1 c2 c3 c4 c5 c6 c7 c8 c9 c10 c11 c12 c13 c14 c15 c16 c17 c18 c19 c20 c21 c22 c23 c24 c25 hf
        obtain ⟨w6, hw6⟩ : ∃ w6, w5.drewN nq = w6 := ⟨_, rfl⟩
        rw [hw6] at h6 k6 ⊢
        clear hw6 H5
        obtain ⟨c0, c1, c2, c3, c4, c5, c6, c7, c8, c9, c10, c11, c12, c13, c14, c15, c16, c17, c18, c19, c20, c21, c22, c23, c24, c25⟩ := (h6).cells
        have hf := (h6).free
        have H6 := Lib.hid (And.intro h6 k6)
        clear h6 k6
        by_cases hbad : (0 ≤ d2.left ∧ d2.left < t.length) ∨ (0 ≤ d2.total ∧ d2.total < d2.got + t.length)
        · have HT : Hid (x = (failsF d2 192, [])) := Lib.hid (by rw [HY.out]; unfold in3; rw [HTF.out]; unfold told2; rw [if_neg (by omega : ¬ d2.limit < d2.got + t.length), if_pos hbad, if_neg (by simp [failsF])])
          have hways : (0 ≤ d2.left ∧ d2.left < t.length) ∨ (0 ≤ d2.left ∧ ¬ d2.left < t.length ∧ 0 ≤ d2.total ∧ d2.total < d2.got + t.length) ∨ (d2.left < 0 ∧ 0 ≤ d2.total ∧ d2.total < d2.got + t.length) := by omega
          clear hbad
          rcases hways with ⟨a1, a2⟩ | ⟨a1, a2, a3, a4⟩ | ⟨a1, a3, a4⟩
          · go_quiet (fail)
            go_wp2_with (fail)
            refine (rfails_any b d2 Y2 192 _ (H6.out.1.drewN _)).mono ?_
            rintro e w7 ⟨rfl, h7, k7⟩
            go_wp2_with (fail)
            go_ret
            rw [HT.out]
            exact ⟨rfl, Y2, h7, HM.out.2.trans' ((H6.out.2.drewN _).trans' k7), Rl.off (by simp [failsF]), by rw [HY2F.out.1]; exact HRW.out.1⟩
          · have a2f : decide (d2.left < t.length) = false := decide_eq_false a2
            go_quiet (fail)
            go_wp2_with (fail)
            refine (rfails_any b d2 Y2 192 _ (H6.out.1.drewN _)).mono ?_
            rintro e w7 ⟨rfl, h7, k7⟩
            go_wp2_with (fail)
            go_ret
            rw [HT.out]
            exact ⟨rfl, Y2, h7, HM.out.2.trans' ((H6.out.2.drewN _).trans' k7), Rl.off (by simp [failsF]), by rw [HY2F.out.1]; exact HRW.out.1⟩
          · have a1f : decide (0 ≤ d2.left) = false := decide_eq_false (by omega)
            go_quiet (fail)
            go_wp2_with (fail)
            refine (rfails_any b d2 Y2 192 _ (H6.out.1.drewN _)).mono ?_
            rintro e w7 ⟨rfl, h7, k7⟩
            go_wp2_with (fail)
            go_ret
            rw [HT.out]
            exact ⟨rfl, Y2, h7, HM.out.2.trans' ((H6.out.2.drewN _).trans' k7), Rl.off (by simp [failsF]), by rw [HY2F.out.1]; exact HRW.out.1⟩
        have HT0 : Hid (toldF d1 o2 = (told3 d2 t, t)) := Lib.hid (by rw [HTF.out]; unfold told2; rw [if_neg (by omega : ¬ d2.limit < d2.got + t.length), if_neg hbad])
        have hways : (0 ≤ d2.left ∧ ¬ d2.left < t.length ∧ d2.total < 0) ∨ (0 ≤ d2.left ∧ ¬ d2.left < t.length ∧ 0 ≤ d2.total ∧ ¬ d2.total < d2.got + t.length) ∨ (d2.left < 0 ∧ d2.total < 0) ∨ (d2.left < 0 ∧ 0 ≤ d2.total ∧ ¬ d2.total < d2.got + t.length) := by omega
        have HNB := Lib.hid hbad
        clear hbad
        go_cut [173] from 139 to 173 (fun v173 wx => v173 = .bool false ∧ MAt wx b d2 Y2 ∧ Kept [b] W wx)
        case first =>
          rcases hways with ⟨a1, a2, a3⟩ | ⟨a1, a2, a3, a4⟩ | ⟨a1, a3⟩ | ⟨a1, a3, a4⟩
          · have a2f : decide (d2.left < t.length) = false := decide_eq_false a2
            have a3f : decide (0 ≤ d2.total) = false := decide_eq_false (by omega)
            go_quiet (fail)
            go_wp2_with (fail)
            go_meet
            exact ⟨rfl, H6.out.1.drewN _, H6.out.2.drewN _⟩
          · have a2f : decide (d2.left < t.length) = false := decide_eq_false a2
            have a4f : decide (d2.total < d2.got + t.length) = false := decide_eq_false a4
            go_quiet (fail)
            go_wp2_with (fail)
            go_meet
            exact ⟨rfl, H6.out.1.drewN _, H6.out.2.drewN _⟩
          · have a1f : decide (0 ≤ d2.left) = false := decide_eq_false (by omega)
            have a3f : decide (0 ≤ d2.total) = false := decide_eq_false (by omega)
            go_quiet (fail)
            go_wp2_with (fail)
            go_meet
            exact ⟨rfl, H6.out.1.drewN _, H6.out.2.drewN _⟩
          · have a1f : decide (0 ≤ d2.left) = false := decide_eq_false (by omega)
            have a4f : decide (d2.total < d2.got + t.length) = false := decide_eq_false a4
            go_quiet (fail)
            go_wp2_with (fail)
            go_meet
            exact ⟨rfl, H6.out.1.drewN _, H6.out.2.drewN _⟩
        case rest =>
        obtain ⟨rfl, h7, k7⟩ := hcut
        clear c0 c1 c2 c3 c4 c5 c6 c7 c8 c9 c10 c11 c12 c13 c14 c15 c16 c17 c18 c19 c20 c21 c22 c23 c24 c25 hf
        obtain ⟨c0, c1, c2, c3, c4, c5, c6, c7, c8, c9, c10, c11, c12, c13, c14, c15, c16, c17, c18, c19, c20, c21, c22, c23, c24, c25⟩ := (h7).cells
        have hf := (h7).free
        have H7 := Lib.hid (And.intro h7 k7)
        clear h7 k7 H6
        go_upto_if 180 with (fail)
        go_cut [] from 176 to 189 (fun wx => MAt wx b (if 0 ≤ d2.left then { d2 with left := d2.left - t.length } else d2) Y2 ∧ Kept [b] W wx)
        case first =>
          by_cases a1 : 0 ≤ d2.left
          · have HL : Hid ((if 0 ≤ d2.left then { d2 with left := d2.left - t.length } else d2) = ({ d2 with left := d2.left - t.length } : Cl)) := Lib.hid (if_pos a1)
            go_wp2_with (fail)
            go_meet
            rw [HL.out]
            exact ⟨H7.out.1.set25 _, H7.out.2.setCell (.inl (by simp)) _⟩
          · have HL : Hid ((if 0 ≤ d2.left then { d2 with left := d2.left - t.length } else d2) = d2) := Lib.hid (if_neg a1)
            have a1f : decide (0 ≤ d2.left) = false := decide_eq_false a1
            go_wp2_with (fail)
            go_meet
            rw [HL.out]
            exact ⟨H7.out.1, H7.out.2⟩
        case rest =>
        obtain ⟨h8, k8⟩ := hcut
        obtain ⟨d3, hd3⟩ : ∃ d3 : Cl, (if 0 ≤ d2.left then { d2 with left := d2.left - t.length } else d2) = d3 := ⟨_, rfl⟩
        have hg3 : d3.got = d2.got := by rw [← hd3]; split <;> rfl
        have HT3 : Hid (told3 d2 t = { d3 with got := d2.got + t.length }) := Lib.hid (by unfold told3; rw [hd3])
        have hbT := told_bd (c := d1) HD1.out.2.2.1 o2
        rw [HT0.out] at hbT
        have hbT3 : (told3 d2 t).state = 1 ∧ (told3 d2 t).body = some r2 := by
          unfold told3
          split <;> exact HD2.out
        have HBT := Lib.hid (And.intro hbT.1 hbT3)
        clear hbT hbT3
        rw [hd3] at h8
        clear c0 c1 c2 c3 c4 c5 c6 c7 c8 c9 c10 c11 c12 c13 c14 c15 c16 c17 c18 c19 c20 c21 c22 c23 c24 c25 hf
        obtain ⟨c0, c1, c2, c3, c4, c5, c6, c7, c8, c9, c10, c11, c12, c13, c14, c15, c16, c17, c18, c19, c20, c21, c22, c23, c24, c25⟩ := (h8).cells
        have hf := (h8).free
        rw [hg3] at c9
        have H8 := Lib.hid (And.intro h8 k8)
        clear h8 k8 H7 hd3 hg3 hways
        have h9 := H8.out.1.set9 (d2.got + t.length)
        rw [← HT3.out] at h9
        have k9 := H8.out.2.setCell (.inl (by simp) : (⟨b, 9, none⟩ : Addr).block ∈ [b] ∨ _) (I (d2.got + t.length))
        have H9 := Lib.hid (And.intro h9 k9)
        clear h9 k9
        cases hdd : dd with
        | true =>
          have HT : Hid (x = (endsF (told3 d2 t), t)) := Lib.hid (by rw [HY.out]; unfold in3; rw [HT0.out, if_pos ⟨HBT.out.2.1, hdd⟩])
          (try rw [hdd])
          clear hdd
          go_wp2_with (fail)
          refine (rends_any b _ Y2 _ H9.out.1 HBT.out.1).mono ?_
          rintro e wz ⟨rfl, hz, kz⟩
          go_wp2_with (fail)
          go_ret
          rw [HT.out]
          exact ⟨rfl, Y2, hz, HM.out.2.trans' (H9.out.2.trans' kz), Rl.off (ends_ne1 _), by rw [HY2F.out.1]; exact HRW.out.1⟩
        | false =>
          have HT : Hid (x = (told3 d2 t, t)) := Lib.hid (by rw [HY.out]; unfold in3; rw [HT0.out, if_neg (by rw [hdd]; simp)])
          (try rw [hdd])
          clear hdd
          go_wp2_with (fail)
          go_ret
          rw [HT.out]
          refine ⟨rfl, Y2, H9.out.1, HM.out.2.trans' H9.out.2, ⟨fun _ e => (by rw [HBT.out.2.2] at e; cases e), fun _ rr e => ?_⟩, by rw [HY2F.out.1]; exact HRW.out.1⟩
          rw [HBT.out.2.2] at e
          injection e with e
          subst e
          obtain ⟨hYst, hYs1, hYs2, hYl, hYnew, hYn, hYnl, hYseen, hYo1, hYo2⟩ := HK.out
          obtain ⟨y1, y2, y3, y4, y5, y6, y7⟩ := HY2F.out
          have hlt9 := H9.out.2.size
          refine ⟨by rw [y2]; exact HKN.out, ⟨⟨h, n, R0, out, by rw [y3]; exact hYst, by rw [y4]; exact strs_keptB hYs1 H9.out.2 (fun q hq hm => (hYo1 q hq).1 (by simp at hm; subst hm; exact HbT.out)), by rw [y5]; exact strs_keptB hYs2 H9.out.2 (fun q hq hm => (hYo2 q hq).1 (by simp at hm; subst hm; exact HbT.out)), hYl, hYnew, by rw [y6]; exact hYn, by rw [y1]; exact hYnl, by rw [y1, HSD.out]; exact HFR.out, y7⟩, by rw [y4]; exact fun q hq => ⟨(hYo1 q hq).1, Nat.lt_of_lt_of_le (hYo1 q hq).2 hlt9⟩, by rw [y5]; exact fun q hq => ⟨(hYo2 q hq).1, Nat.lt_of_lt_of_le (hYo2 q hq).2 hlt9⟩⟩⟩
end CL
end Go.Proofs.YtgdncdhalnijcaaGreatDoor
