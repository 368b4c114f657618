/- Walks and lemmas on the program of this seat, used by its statements; each theorem bears its own conditions. -/
import Derived.Test.YtgdncdhalnijcaaGreatDoorMCP
import Derived.Test.YtgdncdhalnijcaaGreatDoorMCC
import Derived.Handy
import Derived.Recover
import Derived.IntWalk
import Derived.Deep.CutRange
import Derived.OwnWalk
import Derived.Deep.AppendLies
import Derived.Deep.RegionLaw
import Derived.Deep.RegionHeld3
import Derived.StillTailTactics
import Derived.RegionTactic
import Derived.ChangeAlike
namespace Go.Proofs.YtgdncdhalnijcaaGreatDoor
open Go.RowKit
set_option linter.unusedVariables false
set_option linter.unusedSimpArgs false
section
namespace CL
set_option maxHeartbeats 8000000
set_option maxRecDepth 100000
/-! ### spans -/
def spansF (c : Cl) (r : BD.Rd) (h : Hd) : Cl × Int × Bool :=
  if spanYes c r (spanF (getF h.ns h.vs crName).1) (getF h.ns h.vs crName).2 = true then ({ c with left := (spanF (getF h.ns h.vs crName).1).t - (spanF (getF h.ns h.vs crName).1).f + 1 }, (spanF (getF h.ns h.vs crName).1).a, true) else (c, 0, false)
def SpPost (b bb : Nat) (w : World) (x : Cl × Int × Bool) (e : Ending) (w' : World) : Prop := e = .returned (.tuple #[I x.2.1, .bool x.2.2]) ∧ ClAt w' b bb x.1 ∧ Kept [b, bb] w w'
abbrev SpT : TypeId := 116
set_option maxRecDepth 100000 in
set_option maxHeartbeats 40000000 in
theorem spans_any (b bb : Nat) (c : Cl) (r : BD.Rd) (h : Hd) (nv vv : Value) (w : World) (H : ClAt w b bb c) (hr : c.body = some r) (hn : StrsAt w nv h.ns) (hv : StrsAt w vv h.vs) (hM : ML w) (hlen : ∀ v ∈ h.vs, v.length ≤ 4294967280)
    (x : Cl × Int × Bool) (hx : spansF c r h = x) : Calls Tryz.prog 62 #[Ptr b, .agg #[I h.st, nv, vv]] w (SpPost b bb w x) := by
  obtain ⟨v, n, hg⟩ : ∃ v n, getF h.ns h.vs crName = (v, n) := ⟨_, _, rfl⟩
  obtain ⟨sp, hsp⟩ : ∃ sp, spanF v = sp := ⟨_, rfl⟩
  have hvl := getF_len (ns := h.ns) hlen crName
  rw [hg] at hvl
  have hX : Hid (x = if spanYes c r sp n = true then ({ c with left := sp.t - sp.f + 1 }, sp.a, true) else (c, 0, false)) := Lib.hid (by rw [← hx]; unfold spansF; rw [hg, hsp])
  have ht := (num_bd (Lib.cut (Lib.cut (Lib.trimPrefix v bytesL) [45]).2.1 [47]).1)
  have hf := (num_bd (Lib.cut (Lib.trimPrefix v bytesL) [45]).1)
  have hbt : -1 ≤ sp.t ∧ sp.t ≤ 999999999 ∧ -1 ≤ sp.f ∧ sp.f ≤ 999999999 := by rw [← hsp]; exact ⟨ht.1, ht.2, hf.1, hf.2⟩
  obtain ⟨t1, t2, t3, t4⟩ := hbt
  have HG : Hid (∀ W, Kept [] w W → Calls Tryz.prog 93 #[.agg #[I h.st, nv, vv], S crName] W fun e w' => e = .returned (.tuple #[S v, I n]) ∧ Kept [] W w') := Lib.hid fun W k => by
    have := get_any h.st nv vv h.ns h.vs crName W (hn.kept k) (hv.kept k)
    rw [hg] at this
    exact this
  have HP : Hid (∀ W, ML W → Calls Tryz.prog 96 #[S v] W fun e w' => e = .returned (.tuple #[.agg #[I sp.f, I sp.t, I sp.a], .bool sp.ok]) ∧ Kept [] W w') := Lib.hid fun W k => span_any v W (by simp only at hvl; omega) k sp hsp
  have HS : Hid (∀ W, BD.RdAt W bb r → Calls Tryz.prog 61 #[Ptr bb] W fun e w' => e = .returned (I r.size) ∧ w' = W) := Lib.hid fun W k => (BD.size_any bb r W k).mono fun _ _ h => ⟨h.1, h.2.symm⟩
  have HR := Lib.hid (H.rd r hr)
  have hbv : c.bv bb = Ptr bb := by unfold Cl.bv; rw [hr]
  have HBV := Lib.hid hbv
  have HH := Lib.hid H
  have HM := Lib.hid hM
  have hlt := H.lt
  have hnn : (n : Int) ≤ 9223372036854775807 := by
    have := getF_le h.ns h.vs crName
    rw [hg] at this
    obtain ⟨_, _, _, h2, _⟩ := hn
    simp only at this; omega
  have k0 : Kept [] w (w.alloc (.cells #[I h.st, nv, vv] HdT)) := (Kept.refl _ _).alloc _
  have K0 := Lib.hid k0
  clear hx hg hsp hvl ht hf hlen H hr hn hv hM hbv k0
  go_enter Tryz.func62, Tryz.ntmps62
  go_wp2_with (fail)
  refine (HG.out _ K0.out).mono ?_
  rintro e w1 ⟨rfl, k1⟩
  have K1 := Lib.hid (K0.out.trans' k1)
  clear k1
  go_wp2_with (fail)
  refine (HP.out _ (HM.out.kept K1.out)).mono ?_
  rintro e w2 ⟨rfl, k2⟩
  have K2 := Lib.hid (K1.out.trans' k2)
  clear k2
  go_upto_region 3 with (fail)
  have hb := heap_new w2 (.cells #[I sp.f, I sp.t, I sp.a] SpT)
  have hk : Kept [] w (w2.alloc (.cells #[I sp.f, I sp.t, I sp.a] SpT)) := K2.out.alloc _
  have hgb : w2.heap.size ≠ b := by have := K2.out.size; omega
  obtain ⟨W, hW⟩ : ∃ W, w2.alloc (.cells #[I sp.f, I sp.t, I sp.a] SpT) = W := ⟨_, rfl⟩
  have hW' : w2.alloc (.cells #[Value.int .i64 sp.f, Value.int .i64 sp.t, Value.int .i64 sp.a] SpT) = W := hW
  rw [hW] at hb hk
  rw [hW']
  generalize w2.heap.size = g at hb hgb ⊢
  have hc := HH.out.kept hk (by simp) (by simp)
  have HRW : Hid (BD.RdAt W bb r) := Lib.hid ((toBD hk).at HR.out (by simp))
  have z0 : W.cell? ⟨g, 0, none⟩ = some (I sp.f) := by rw [cell_at hb]; rfl
  have z1 : W.cell? ⟨g, 1, none⟩ = some (I sp.t) := by rw [cell_at hb]; rfl
  have z2 : W.cell? ⟨g, 2, none⟩ = some (I sp.a) := by rw [cell_at hb]; rfl
  obtain ⟨c0, c1, c2, c3, c4, c5, c6, c7, c8, c9, c10, c11, c12, c13, c14, c15, c16, c17, c18, c19, c20⟩ := (hc).cells
  have hf := (hc).free
  rw [HBV.out] at c18
  have HC := Lib.hid (And.intro hc hk)
  have hlast : ∀ (N : Nat), Kept [b, bb] w (W.drewN N) ∧ ClAt (W.drewN N) b bb c := fun N => ⟨(Kept.two HC.out.2).drewN N, HC.out.1.drewN N⟩
  have HL := Lib.hid hlast
  clear hW hW' hc hk hb hlast HG HP HM K0 K1 K2 HH HR
  have w3 : IntKind.i64.wrap (sp.t - sp.f) = sp.t - sp.f := by rw [IntKind.wrap_i64]; omega
  have w4 : IntKind.i64.wrap (sp.t - sp.f + 1) = sp.t - sp.f + 1 := by rw [IntKind.wrap_i64]; omega
  have hways : n ≠ 1 ∨ (n = 1 ∧ sp.ok = false) ∨ (n = 1 ∧ sp.ok = true ∧ sp.f ≠ c.got) ∨ (n = 1 ∧ sp.ok = true ∧ sp.f = c.got ∧ r.size < 0) ∨ (n = 1 ∧ sp.ok = true ∧ sp.f = c.got ∧ 0 ≤ r.size ∧ r.size ≠ sp.t - sp.f + 1) ∨ (n = 1 ∧ sp.ok = true ∧ sp.f = c.got ∧ 0 ≤ r.size ∧ r.size = sp.t - sp.f + 1) := by
    cases sp.ok <;> simp <;> omega
  rcases hways with h1 | ⟨h1, h2⟩ | ⟨h1, h2, h3⟩ | ⟨h1, h2, h3, h4⟩ | ⟨h1, h2, h3, h4, h5⟩ | ⟨h1, h2, h3, h4, h5⟩
  · have hy : Hid (x = (c, 0, false)) := Lib.hid (by rw [hX.out, if_neg (by unfold spanYes; simp [h1])])
    have hb : ((n : Int) != 1) = true := by simp; omega
    clear h1
    go_wp2_with (fail)
    go_quiet (fail)
    go_wp2_with (fail)
    go_ret2
    exact ⟨by rw [hy.out]; rfl, by rw [hy.out]; exact (HL.out _).2, (HL.out _).1⟩
  · have hy : Hid (x = (c, 0, false)) := Lib.hid (by rw [hX.out, if_neg (by unfold spanYes; simp [h2])])
    have hb : ((n : Int) != 1) = false := by simp; omega
    clear h1
    go_wp2_with (fail)
    go_quiet (fail)
    go_wp2_with (fail)
    go_ret2
    exact ⟨by rw [hy.out]; rfl, by rw [hy.out]; exact (HL.out _).2, (HL.out _).1⟩
  · have hy : Hid (x = (c, 0, false)) := Lib.hid (by rw [hX.out, if_neg (by unfold spanYes; simp [h3])])
    have hb : ((n : Int) != 1) = false := by simp; omega
    have hf : (sp.f == c.got) = false := by simpa using h3
    have hf' : (sp.f != c.got) = true := by simpa using h3
    clear h1 h3
    go_wp2_with (fail)
    go_quiet (fail)
    go_wp2_with (fail)
    go_ret2
    exact ⟨by rw [hy.out]; rfl, by rw [hy.out]; exact (HL.out _).2, (HL.out _).1⟩
  · have hy : Hid (x = ({ c with left := sp.t - sp.f + 1 }, sp.a, true)) := Lib.hid (by rw [hX.out, if_pos (by unfold spanYes; exact decide_eq_true ⟨h1, h2, h3, by omega⟩)])
    have hb : ((n : Int) != 1) = false := by simp; omega
    have hf : (sp.f == c.got) = true := by simpa using h3
    have hf' : (sp.f != c.got) = false := by simpa using h3
    have h4f : decide (0 ≤ r.size) = false := decide_eq_false (by omega)
    clear h1 h3
    go_wp2_with (fail)
    go_quiet ((go_at_call 61; exact Calls.quiet_of_same (HS.out _ (HRW.out.drewN _))))
    go_wp2_with (fail)
    go_ret2
    exact ⟨by rw [hy.out]; rfl, by rw [hy.out]; exact (HL.out _).2.set20 _, (HL.out _).1.setCell (.inl (by simp)) _⟩
  · have hy : Hid (x = (c, 0, false)) := Lib.hid (by rw [hX.out, if_neg (by unfold spanYes; simp [h3]; omega)])
    have hb : ((n : Int) != 1) = false := by simp; omega
    have hf : (sp.f == c.got) = true := by simpa using h3
    have hf' : (sp.f != c.got) = false := by simpa using h3
    have hs : (r.size != sp.t - sp.f + 1) = true := by simpa using h5
    clear h1 h3 h5
    go_wp2_with (fail)
    go_quiet ((go_at_call 61; exact Calls.quiet_of_same (HS.out _ (HRW.out.drewN _))))
    go_wp2_with (fail)
    go_ret2
    exact ⟨by rw [hy.out]; rfl, by rw [hy.out]; exact (HL.out _).2, (HL.out _).1⟩
  · have hy : Hid (x = ({ c with left := sp.t - sp.f + 1 }, sp.a, true)) := Lib.hid (by rw [hX.out, if_pos (by unfold spanYes; exact decide_eq_true ⟨h1, h2, h3, by omega⟩)])
    have hb : ((n : Int) != 1) = false := by simp; omega
    have hf : (sp.f == c.got) = true := by simpa using h3
    have hf' : (sp.f != c.got) = false := by simpa using h3
    have hs : (r.size != sp.t - sp.f + 1) = false := by simpa using h5
    clear h1 h3 h5
    go_wp2_with (fail)
    go_quiet ((go_at_call 61; exact Calls.quiet_of_same (HS.out _ (HRW.out.drewN _))))
    go_wp2_with (fail)
    go_ret2
    exact ⟨by rw [hy.out]; rfl, by rw [hy.out]; exact (HL.out _).2.set20 _, (HL.out _).1.setCell (.inl (by simp)) _⟩
end CL
end
section
namespace CL
set_option maxHeartbeats 8000000
set_option maxRecDepth 100000
/-! ### heads -/
theorem lt_of_RdAt {w : World} {b : Nat} {r : BD.Rd} (h : BD.RdAt w b r) : b < w.heap.size := lt_of_block h
def headsY (c : Cl) (r : BD.Rd) (h : Hd) : Cl × Int × Bool := if h.st = 206 then spansF c r h else ({ c with skip := c.got }, r.size, true)
def headsZ (y : Cl × Int × Bool) : Cl × Bool := if y.2.2 = true then heads3 y.1 y.2.1 else (failsF y.1 192, false)
theorem heads2_YZ (c : Cl) (r : BD.Rd) (h : Hd) : heads2 c r h = headsZ (headsY c r h) := by
  unfold heads2 headsZ headsY spansF
  by_cases h1 : h.st = 206
  · rw [if_pos h1, if_pos h1]
    split <;> rfl
  · rw [if_neg h1, if_neg h1]; rfl
set_option maxRecDepth 100000 in
set_option maxHeartbeats 40000000 in
theorem heads_any (b bb : Nat) (c : Cl) (h : Hd) (nv vv : Value) (w : World) (H : ClAt w b bb c) (hk : c.Pre) (hL : Lies w b bb) (hn : ∀ V, Kept [b] w V → StrsAt V nv h.ns) (hv : ∀ V, Kept [b] w V → StrsAt V vv h.vs) (hlen : ∀ v ∈ h.vs, v.length ≤ 4294967280) (hst : h.st ≤ 1000)
    (x : Cl × Bool) (hx : headsF c h = x) : Calls Tryz.prog 30 #[Ptr b, .agg #[I h.st, nv, vv]] w (CrPost (.bool x.2) b bb w x.1) := by
  have hx0 := hx
  have HX := Lib.hid hx
  have HK := Lib.hid hk
  have HL := Lib.hid hL
  have hbl := H.lt
  have hbbl := hL.lt
  have k0 : Kept [] w (w.alloc (.cells #[I h.st, nv, vv] HdT)) := (Kept.refl _ _).alloc _
  have hbx := heap_new w (.cells #[I h.st, nv, vv] HdT)
  have HN := Lib.hid (And.intro hn (And.intro hv hlen))
  have HH := Lib.hid (And.intro (H.kept k0 (by simp) (by simp)) k0)
  clear hx hx0 hk hL hn hv hlen H k0
  go_enter Tryz.func30, Tryz.ntmps30
  obtain ⟨W, hW⟩ : ∃ W, w.alloc (.cells #[I h.st, nv, vv] HdT) = W := ⟨_, rfl⟩
  have hW' : w.alloc (.cells #[Value.int .i64 (h.st : Int), nv, vv] HdT) = W := hW
  go_upto_region 1 with (fail)
  rw [hW] at hbx HH
  try first | rw [hW'] | rw [hW]
  clear hW hW'
  have hst' : (h.st : Int) ≤ 1000 := by omega
  obtain ⟨g, hg⟩ : ∃ g, w.heap.size = g := ⟨_, rfl⟩
  rw [hg] at hbx ⊢
  have hgb : g ≠ b := by omega
  have hgb2 : g ≠ bb := by omega
  obtain ⟨q0, q1, q2⟩ := cells3 hbx
  have HB := Lib.hid hbx
  obtain ⟨h0, k0⟩ := HH.out
  obtain ⟨c0, c1, c2, c3, c4, c5, c6, c7, c8, c9, c10, c11, c12, c13, c14, c15, c16, c17, c18, c19, c20⟩ := (h0).cells
  have hf := (h0).free
  clear hbx h0 k0
  by_cases hl : h.st = 408 ∨ h.st = 429 ∨ 500 ≤ h.st
  · have hY : Hid (x = (losesF c, false)) := Lib.hid (by rw [← HX.out]; unfold headsF; rw [if_pos hl])
    have hways : h.st = 408 ∨ (h.st ≠ 408 ∧ h.st = 429) ∨ (h.st ≠ 408 ∧ h.st ≠ 429 ∧ 500 ≤ h.st) := by omega
    clear hl
    rcases hways with h1 | ⟨h1, h2⟩ | ⟨h1, h2, h3⟩
    · have e1 : ((h.st : Int) == 408) = true := by simp; omega
      clear h1
      go_wp2_with (fail)
      refine (loses_any b bb c W HH.out.1 HK.out.bd).mono ?_
      rintro e w3 ⟨rfl, h3, k3⟩
      go_wp2_with (fail)
      go_ret
      rw [hY.out]
      exact CrPost.mk hbbl (.inl rfl) h3 ((Kept.two HH.out.2).trans' k3) rfl
    · have e1 : ((h.st : Int) == 408) = false := by simp; omega
      have e2 : ((h.st : Int) == 429) = true := by simp; omega
      clear h1 h2
      go_wp2_with (fail)
      refine (loses_any b bb c W HH.out.1 HK.out.bd).mono ?_
      rintro e w3 ⟨rfl, h3, k3⟩
      go_wp2_with (fail)
      go_ret
      rw [hY.out]
      exact CrPost.mk hbbl (.inl rfl) h3 ((Kept.two HH.out.2).trans' k3) rfl
    · have e1 : ((h.st : Int) == 408) = false := by simp; omega
      have e2 : ((h.st : Int) == 429) = false := by simp; omega
      have e3 : (500 : Int) ≤ h.st := by omega
      clear h1 h2 h3
      go_wp2_with (fail)
      refine (loses_any b bb c W HH.out.1 HK.out.bd).mono ?_
      rintro e w3 ⟨rfl, h3, k3⟩
      go_wp2_with (fail)
      go_ret
      rw [hY.out]
      exact CrPost.mk hbbl (.inl rfl) h3 ((Kept.two HH.out.2).trans' k3) rfl
  have e1 : ((h.st : Int) == 408) = false := by simp; omega
  have e2 : ((h.st : Int) == 429) = false := by simp; omega
  have e3 : decide ((500 : Int) ≤ h.st) = false := decide_eq_false (by omega)
  have e3' : (h.st : Int) < 500 := by omega
  by_cases hs : h.st ≠ 200 ∧ h.st ≠ 206
  · have hY : Hid (x = (failsF c 191, false)) := Lib.hid (by rw [← HX.out]; unfold headsF; rw [if_neg hl, if_pos hs])
    have e4 : ((h.st : Int) != 200) = true := by simp; omega
    have e5 : ((h.st : Int) != 206) = true := by simp; omega
    clear hl hs
    go_wp2_with (fail)
    refine (fails_any b bb c 191 W HH.out.1).mono ?_
    rintro e w3 ⟨rfl, h3, k3⟩
    go_wp2_with (fail)
    go_ret
    rw [hY.out]
    exact CrPost.mk hbbl (.inl rfl) h3 ((Kept.two HH.out.2).trans' k3) rfl
  have hX2 : Hid (x = match BD.newF h.st h.ns h.vs with | (some r, _) => headsZ (headsY { c with body := some r } r h) | (none, e) => (failsF c (formedF e), false)) := Lib.hid (by
    rw [← HX.out]; unfold headsF; rw [if_neg hl, if_neg hs]
    cases BD.newF h.st h.ns h.vs with
    | mk a k => cases a with
      | none => rfl
      | some r => simp only [heads2_YZ])
  have hst2 : (h.st = 200) ∨ (h.st ≠ 200 ∧ h.st = 206) := by omega
  clear hl hs
  rcases BD.newF_cases h.st h.ns h.vs with ⟨k, hnf, hk⟩ | ⟨r, hnf, hr1, hr2, hr3, hr4, hr5, hr6⟩
  · have hY : Hid (x = (failsF c (formedF k), false)) := Lib.hid (by rw [hX2.out, hnf])
    have HNO : Hid (∀ V, Kept [] w V → Calls Tryz.prog 60 #[.agg #[I h.st, nv, vv]] V fun e w' => e = .returned (.tuple #[.pointer none, I k]) ∧ Kept [] V w') := Lib.hid fun V kV => (BD.new_no h.st nv vv h.ns h.vs V (toBDS (HN.out.1 V (kV.mono (by simp)))) (toBDS (HN.out.2.1 V (kV.mono (by simp)))) (HL.out.same kV).tabs k hnf).mono fun _ _ h => ⟨h.1, ofBD h.2⟩
    have hkb : (k != 0) = true := by rcases hk with rfl | rfl <;> rfl
    clear hk hnf hX2
    rcases hst2 with h5 | ⟨h5, h6⟩
    ·
      have e4 : ((h.st : Int) != 200) = false := by simp; omega
      clear h5
      go_wp2_with (fail)
      refine (HNO.out _ HH.out.2).mono ?_
      rintro e w2 ⟨rfl, k2⟩
      have H2 := Lib.hid (And.intro (HH.out.1.kept k2 (by simp) (by simp)) (HH.out.2.trans' k2))
      clear k2
      go_wp2_with (fail)
      refine (formed_any k w2).mono ?_
      rintro e w3 ⟨rfl, rfl⟩
      go_wp2_with (fail)
      refine (fails_any b bb c (formedF k) _ H2.out.1).mono ?_
      rintro e w3 ⟨rfl, h3, k3⟩
      go_wp2_with (fail)
      go_ret
      rw [hY.out]
      exact CrPost.mk hbbl (.inl rfl) h3 ((Kept.two H2.out.2).trans' k3) rfl
    ·
      have e4 : ((h.st : Int) != 200) = true := by simp; omega
      have e5 : ((h.st : Int) != 206) = false := by simp; omega
      clear h5 h6
      go_wp2_with (fail)
      refine (HNO.out _ HH.out.2).mono ?_
      rintro e w2 ⟨rfl, k2⟩
      have H2 := Lib.hid (And.intro (HH.out.1.kept k2 (by simp) (by simp)) (HH.out.2.trans' k2))
      clear k2
      go_wp2_with (fail)
      refine (formed_any k w2).mono ?_
      rintro e w3 ⟨rfl, rfl⟩
      go_wp2_with (fail)
      refine (fails_any b bb c (formedF k) _ H2.out.1).mono ?_
      rintro e w3 ⟨rfl, h3, k3⟩
      go_wp2_with (fail)
      go_ret
      rw [hY.out]
      exact CrPost.mk hbbl (.inl rfl) h3 ((Kept.two H2.out.2).trans' k3) rfl
  · have hY : Hid (x = headsZ (headsY { c with body := some r } r h)) := Lib.hid (by rw [hX2.out, hnf])
    have HYE : Hid (∀ V, Kept [] w V → Calls Tryz.prog 60 #[.agg #[I h.st, nv, vv]] V fun e w' => ∃ bR, V.heap.size ≤ bR ∧ e = .returned (.tuple #[Ptr bR, I 0]) ∧ BD.RdAt w' bR r ∧ Kept [] V w') := Lib.hid fun V kV => (BD.new_yes h.st nv vv h.ns h.vs V (toBDS (HN.out.1 V (kV.mono (by simp)))) (toBDS (HN.out.2.1 V (kV.mono (by simp)))) (HL.out.same kV).tabs r hnf).mono fun _ _ ⟨bR, h1, h2, h3, h4⟩ => ⟨bR, h1, h2, h3, ofBD h4⟩
    clear hnf hX2 hr1 hr2 hr3 hr4 hr5 hr6
    rcases hst2 with h5 | ⟨h5, h6⟩
    ·
      have e4 : ((h.st : Int) != 200) = false := by simp; omega
      have e6 : ((h.st : Int) == 206) = false := by simp; omega
      have hYY : Hid (headsY { c with body := some r } r h = ({ c with body := some r, skip := c.got }, r.size, true)) := Lib.hid (by unfold headsY; rw [if_neg (by omega)])
      clear h5
      go_wp2_with (fail)
      refine (HYE.out _ HH.out.2).mono ?_
      rintro e w2 ⟨bR, hbR, rfl, hR, k2⟩
      have hRl := lt_of_RdAt hR
      have hsz := HH.out.2.size
      have hne : bR ≠ b := by omega
      have hgR : g ≠ bR := by have := lt_of_block HB.out; omega
      have hc2 := (HH.out.1.kept k2 (by simp) (by simp)).set18 hR hne
      have hk2 : Kept [b, bb] w (w2.setCell ⟨b, 18, none⟩ (Ptr bR)) := ((Kept.two (HH.out.2.trans' k2)).setCell (.inl (by simp)) _)
      have hB2 := (set_other (i := 18) (v := Ptr bR) hgb).trans (k2.at HB.out (by simp))
      have hRl2 : bR < (w2.setCell ⟨b, 18, none⟩ (Ptr bR)).heap.size := by simpa using hRl
      have hL2 : Lies (w2.setCell ⟨b, 18, none⟩ (Ptr bR)) b bR := HL.out.next hk2 (.inr (by omega)) hRl2
      have HKB : Hid (Kept [b] w (w2.setCell ⟨b, 18, none⟩ (Ptr bR))) := Lib.hid (((HH.out.2.trans' k2).mono (by simp)).setCell (.inl (by simp)) _)
      have hgo := HH.out.1.kept k2 (by simp) (by simp)
      clear c0 c1 c2 c3 c4 c5 c6 c7 c8 c9 c10 c11 c12 c13 c14 c15 c16 c17 c18 c19 c20 hf
      obtain ⟨c0, c1, c2, c3, c4, c5, c6, c7, c8, c9, c10, c11, c12, c13, c14, c15, c16, c17, c18, c19, c20⟩ := (hgo).cells
      have hf := (hgo).free
      have H2 := Lib.hid (And.intro hc2 (And.intro hk2 (And.intro hB2 (And.intro hRl2 hL2))))
      have HR2 := Lib.hid hR
      clear hc2 hk2 hB2 hRl2 hL2 hgo hR k2 hRl
      go_wp2_with (fail)
      obtain ⟨w3, hw3⟩ : ∃ w3, w2.setCell ⟨b, 18, none⟩ (Ptr bR) = w3 := ⟨_, rfl⟩
      have hw3' : w2.setCell ⟨b, 18, none⟩ (Value.pointer (some ⟨bR, 0, none⟩)) = w3 := hw3
      rw [hw3] at H2 HKB
      rw [hw3']
      clear c0 c1 c2 c3 c4 c5 c6 c7 c8 c9 c10 c11 c12 c13 c14 c15 c16 c17 c18 c19 c20 hf
      clear HR2 hw3 hw3'
      obtain ⟨hc2, hk2, hB2, hRl2, hL2⟩ := H2.out
      obtain ⟨c0, c1, c2, c3, c4, c5, c6, c7, c8, c9, c10, c11, c12, c13, c14, c15, c16, c17, c18, c19, c20⟩ := (hc2).cells
      have hf := (hc2).free
      obtain ⟨q0, q1, q2⟩ := cells3 hB2
      have HRd := Lib.hid (hc2.rd r rfl)
      have hwl : w.heap.size ≤ bR := by omega
      have HLL := Lib.hid (And.intro hk2 (And.intro hL2 hB2))
      have HC2 := Lib.hid hc2
      clear hc2 hk2 hL2 hB2 H2 hbR
      obtain ⟨d, z, o, hdz⟩ : ∃ d z o, headsY { c with body := some r } r h = (d, z, o) := ⟨_, _, _, rfl⟩
      have hY2 : Hid (x = headsZ (d, z, o)) := Lib.hid (by rw [hY.out, hdz])
      refine (BD.size_any bR r w3 HRd.out).mono ?_
      rintro e w4 ⟨rfl, rfl⟩
      have hd : d = { c with body := some r, skip := c.got } ∧ z = r.size ∧ o = true := by
        have h1 := hYY.out
        rw [hdz] at h1
        cases h1
        exact ⟨rfl, rfl, rfl⟩
      obtain ⟨hd1, hd2, rfl⟩ := hd
      clear hdz
      go_upto_region 19 with (fail)
      obtain ⟨V, hVe⟩ : ∃ V, w3.setCell ⟨b, 19, none⟩ (I c.got) = V := ⟨_, rfl⟩
      have hVe' : w3.setCell ⟨b, 19, none⟩ (Value.int .i64 c.got) = V := hVe
      have hV := HC2.out.set19 c.got
      have kV : Kept [b, bb] w (w3.setCell ⟨b, 19, none⟩ (I c.got)) := HLL.out.1.setCell (.inl (by simp)) _
      have hVl : bR < (w3.setCell ⟨b, 19, none⟩ (I c.got)).heap.size := by simpa using hRl2
      rw [hVe] at hV kV hVl
      (try first | rw [hVe'] | rw [hVe])
      rw [← hd1] at hV
      rw [← hd2]
      clear hVe hVe' hd1 hd2
      clear c0 c1 c2 c3 c4 c5 c6 c7 c8 c9 c10 c11 c12 c13 c14 c15 c16 c17 c18 c19 c20 hf
      obtain ⟨c0, c1, c2, c3, c4, c5, c6, c7, c8, c9, c10, c11, c12, c13, c14, c15, c16, c17, c18, c19, c20⟩ := (hV).cells
      have hf := (hV).free
      have HV := Lib.hid (And.intro hV kV)
      clear hV kV HLL HC2 HRd
      have hways : z < 0 ∨ (0 ≤ z ∧ d.limit < z) ∨ (0 ≤ z ∧ z ≤ d.limit ∧ 0 ≤ d.total ∧ d.total ≠ z) ∨ (0 ≤ z ∧ z ≤ d.limit ∧ 0 ≤ d.total ∧ d.total = z ∧ z < d.got) ∨ (0 ≤ z ∧ z ≤ d.limit ∧ d.total < 0 ∧ z < d.got) ∨ (0 ≤ z ∧ z ≤ d.limit ∧ 0 ≤ d.total ∧ d.total = z ∧ d.got ≤ z) ∨ (0 ≤ z ∧ z ≤ d.limit ∧ d.total < 0 ∧ d.got ≤ z) := by omega
      rcases hways with g1 | ⟨g1, g2⟩ | ⟨g1, g2, g3, g4⟩ | ⟨g1, g2, g3, g4, g5⟩ | ⟨g1, g2, g3, g5⟩ | ⟨g1, g2, g3, g4, g5⟩ | ⟨g1, g2, g3, g5⟩
      · have hY3 : Hid (x = (d, true)) := Lib.hid (by rw [hY2.out]; unfold headsZ heads3; rw [if_pos rfl, if_pos g1])
        go_wp2_with (fail)
        go_ret
        rw [hY3.out]
        exact CrPost.mk hbbl (.inr ⟨hwl, hVl⟩) HV.out.1 HV.out.2 rfl
      · have hY3 : Hid (x = (failsF d 193, false)) := Lib.hid (by rw [hY2.out]; unfold headsZ heads3; rw [if_pos rfl, if_neg (by simp only; omega), if_pos g2])
        go_wp2_with (fail)
        refine (fails_any b bR d 193 V HV.out.1).mono ?_
        rintro e w5 ⟨rfl, h3, k3⟩
        go_wp2_with (fail)
        go_ret
        rw [hY3.out]
        exact CrPost.mk hbbl (.inr ⟨hwl, by have := k3.size; omega⟩) h3 (Kept.to2 HV.out.2 (.inr hwl) k3) rfl
      · have hY3 : Hid (x = (failsF d 192, false)) := Lib.hid (by rw [hY2.out]; unfold headsZ heads3; rw [if_pos rfl, if_neg (by simp only; omega), if_neg (by simp only; omega), if_pos (by simp only; omega)])
        have g2f : decide (d.limit < z) = false := decide_eq_false (by omega)
        have g4f : (d.total != z) = true := by simpa using g4
        clear g4
        go_wp2_with (fail)
        refine (fails_any b bR d 192 V HV.out.1).mono ?_
        rintro e w5 ⟨rfl, h3, k3⟩
        go_wp2_with (fail)
        go_ret
        rw [hY3.out]
        exact CrPost.mk hbbl (.inr ⟨hwl, by have := k3.size; omega⟩) h3 (Kept.to2 HV.out.2 (.inr hwl) k3) rfl
      · have hY3 : Hid (x = (failsF d 192, false)) := Lib.hid (by rw [hY2.out]; unfold headsZ heads3; rw [if_pos rfl, if_neg (by simp only; omega), if_neg (by simp only; omega), if_pos (by simp only; omega)])
        have g2f : decide (d.limit < z) = false := decide_eq_false (by omega)
        have g4f : (d.total != z) = false := by simpa using g4
        clear g4
        go_wp2_with (fail)
        refine (fails_any b bR d 192 V HV.out.1).mono ?_
        rintro e w5 ⟨rfl, h3, k3⟩
        go_wp2_with (fail)
        go_ret
        rw [hY3.out]
        exact CrPost.mk hbbl (.inr ⟨hwl, by have := k3.size; omega⟩) h3 (Kept.to2 HV.out.2 (.inr hwl) k3) rfl
      · have hY3 : Hid (x = (failsF d 192, false)) := Lib.hid (by rw [hY2.out]; unfold headsZ heads3; rw [if_pos rfl, if_neg (by simp only; omega), if_neg (by simp only; omega), if_pos (by simp only; omega)])
        have g2f : decide (d.limit < z) = false := decide_eq_false (by omega)
        have g3f : decide (0 ≤ d.total) = false := decide_eq_false (by omega)
        go_wp2_with (fail)
        refine (fails_any b bR d 192 V HV.out.1).mono ?_
        rintro e w5 ⟨rfl, h3, k3⟩
        go_wp2_with (fail)
        go_ret
        rw [hY3.out]
        exact CrPost.mk hbbl (.inr ⟨hwl, by have := k3.size; omega⟩) h3 (Kept.to2 HV.out.2 (.inr hwl) k3) rfl
      · have hY3 : Hid (x = ({ d with total := z }, true)) := Lib.hid (by rw [hY2.out]; unfold headsZ heads3; rw [if_pos rfl, if_neg (by simp only; omega), if_neg (by simp only; omega), if_neg (by simp only; omega)])
        have g2f : decide (d.limit < z) = false := decide_eq_false (by omega)
        have g4f : (d.total != z) = false := by simpa using g4
        have g5f : decide (z < d.got) = false := decide_eq_false (by omega)
        clear g4
        go_wp2_with (fail)
        go_ret
        rw [hY3.out]
        exact CrPost.mk hbbl (.inr ⟨hwl, by simpa using hVl⟩) (HV.out.1.set10 z) (HV.out.2.setCell (.inl (by simp)) _) rfl
      · have hY3 : Hid (x = ({ d with total := z }, true)) := Lib.hid (by rw [hY2.out]; unfold headsZ heads3; rw [if_pos rfl, if_neg (by simp only; omega), if_neg (by simp only; omega), if_neg (by simp only; omega)])
        have g2f : decide (d.limit < z) = false := decide_eq_false (by omega)
        have g3f : decide (0 ≤ d.total) = false := decide_eq_false (by omega)
        have g5f : decide (z < d.got) = false := decide_eq_false (by omega)
        go_wp2_with (fail)
        go_ret
        rw [hY3.out]
        exact CrPost.mk hbbl (.inr ⟨hwl, by simpa using hVl⟩) (HV.out.1.set10 z) (HV.out.2.setCell (.inl (by simp)) _) rfl
    ·
      have e4 : ((h.st : Int) != 200) = true := by simp; omega
      have e5 : ((h.st : Int) != 206) = false := by simp; omega
      have e6 : ((h.st : Int) == 206) = true := by simp; omega
      have hYY : Hid (headsY { c with body := some r } r h = spansF { c with body := some r } r h) := Lib.hid (by unfold headsY; rw [if_pos h6])
      clear h6
      clear h5
      go_wp2_with (fail)
      refine (HYE.out _ HH.out.2).mono ?_
      rintro e w2 ⟨bR, hbR, rfl, hR, k2⟩
      have hRl := lt_of_RdAt hR
      have hsz := HH.out.2.size
      have hne : bR ≠ b := by omega
      have hgR : g ≠ bR := by have := lt_of_block HB.out; omega
      have hc2 := (HH.out.1.kept k2 (by simp) (by simp)).set18 hR hne
      have hk2 : Kept [b, bb] w (w2.setCell ⟨b, 18, none⟩ (Ptr bR)) := ((Kept.two (HH.out.2.trans' k2)).setCell (.inl (by simp)) _)
      have hB2 := (set_other (i := 18) (v := Ptr bR) hgb).trans (k2.at HB.out (by simp))
      have hRl2 : bR < (w2.setCell ⟨b, 18, none⟩ (Ptr bR)).heap.size := by simpa using hRl
      have hL2 : Lies (w2.setCell ⟨b, 18, none⟩ (Ptr bR)) b bR := HL.out.next hk2 (.inr (by omega)) hRl2
      have HKB : Hid (Kept [b] w (w2.setCell ⟨b, 18, none⟩ (Ptr bR))) := Lib.hid (((HH.out.2.trans' k2).mono (by simp)).setCell (.inl (by simp)) _)
      have hgo := HH.out.1.kept k2 (by simp) (by simp)
      clear c0 c1 c2 c3 c4 c5 c6 c7 c8 c9 c10 c11 c12 c13 c14 c15 c16 c17 c18 c19 c20 hf
      obtain ⟨c0, c1, c2, c3, c4, c5, c6, c7, c8, c9, c10, c11, c12, c13, c14, c15, c16, c17, c18, c19, c20⟩ := (hgo).cells
      have hf := (hgo).free
      have H2 := Lib.hid (And.intro hc2 (And.intro hk2 (And.intro hB2 (And.intro hRl2 hL2))))
      have HR2 := Lib.hid hR
      clear hc2 hk2 hB2 hRl2 hL2 hgo hR k2 hRl
      go_wp2_with (fail)
      obtain ⟨w3, hw3⟩ : ∃ w3, w2.setCell ⟨b, 18, none⟩ (Ptr bR) = w3 := ⟨_, rfl⟩
      have hw3' : w2.setCell ⟨b, 18, none⟩ (Value.pointer (some ⟨bR, 0, none⟩)) = w3 := hw3
      rw [hw3] at H2 HKB
      rw [hw3']
      clear c0 c1 c2 c3 c4 c5 c6 c7 c8 c9 c10 c11 c12 c13 c14 c15 c16 c17 c18 c19 c20 hf
      clear HR2 hw3 hw3'
      obtain ⟨hc2, hk2, hB2, hRl2, hL2⟩ := H2.out
      obtain ⟨c0, c1, c2, c3, c4, c5, c6, c7, c8, c9, c10, c11, c12, c13, c14, c15, c16, c17, c18, c19, c20⟩ := (hc2).cells
      have hf := (hc2).free
      obtain ⟨q0, q1, q2⟩ := cells3 hB2
      have HRd := Lib.hid (hc2.rd r rfl)
      have hwl : w.heap.size ≤ bR := by omega
      have HLL := Lib.hid (And.intro hk2 (And.intro hL2 hB2))
      have HC2 := Lib.hid hc2
      clear hc2 hk2 hL2 hB2 H2 hbR
      obtain ⟨d, z, o, hdz⟩ : ∃ d z o, headsY { c with body := some r } r h = (d, z, o) := ⟨_, _, _, rfl⟩
      have hY2 : Hid (x = headsZ (d, z, o)) := Lib.hid (by rw [hY.out, hdz])
      refine (BD.size_any bR r w3 HRd.out).mono ?_
      rintro e w4 ⟨rfl, rfl⟩
      have hsp : spansF { c with body := some r } r h = (d, z, o) := by rw [← hYY.out, hdz]
      have HSP := Lib.hid (spans_any b bR { c with body := some r } r h nv vv w3 HC2.out rfl (HN.out.1 _ HKB.out) (HN.out.2.1 _ HKB.out) HLL.out.2.1.ml HN.out.2.2 (d, z, o) hsp)
      clear hdz hsp
      go_wp2_with (fail)
      refine HSP.out.mono ?_
      rintro e V ⟨rfl, hV, kV⟩
      have hVl : bR < V.heap.size := by have := kV.size; omega
      replace kV := Kept.to2 HLL.out.1 (.inr hwl) kV
      clear c0 c1 c2 c3 c4 c5 c6 c7 c8 c9 c10 c11 c12 c13 c14 c15 c16 c17 c18 c19 c20 hf
      obtain ⟨c0, c1, c2, c3, c4, c5, c6, c7, c8, c9, c10, c11, c12, c13, c14, c15, c16, c17, c18, c19, c20⟩ := (hV).cells
      have hf := (hV).free
      have HV := Lib.hid (And.intro hV kV)
      clear hV kV HLL HC2 HRd
      go_upto_region 19 with (fail)
      cases o with
      | false =>
        have hY3 : Hid (x = (failsF d 192, false)) := Lib.hid (by rw [hY2.out]; rfl)
        go_wp2_with (fail)
        refine (fails_any b bR d 192 V HV.out.1).mono ?_
        rintro e w5 ⟨rfl, h3, k3⟩
        go_wp2_with (fail)
        go_ret
        rw [hY3.out]
        exact CrPost.mk hbbl (.inr ⟨hwl, by have := k3.size; omega⟩) h3 (Kept.to2 HV.out.2 (.inr hwl) k3) rfl
      | true =>
      have hways : z < 0 ∨ (0 ≤ z ∧ d.limit < z) ∨ (0 ≤ z ∧ z ≤ d.limit ∧ 0 ≤ d.total ∧ d.total ≠ z) ∨ (0 ≤ z ∧ z ≤ d.limit ∧ 0 ≤ d.total ∧ d.total = z ∧ z < d.got) ∨ (0 ≤ z ∧ z ≤ d.limit ∧ d.total < 0 ∧ z < d.got) ∨ (0 ≤ z ∧ z ≤ d.limit ∧ 0 ≤ d.total ∧ d.total = z ∧ d.got ≤ z) ∨ (0 ≤ z ∧ z ≤ d.limit ∧ d.total < 0 ∧ d.got ≤ z) := by omega
      rcases hways with g1 | ⟨g1, g2⟩ | ⟨g1, g2, g3, g4⟩ | ⟨g1, g2, g3, g4, g5⟩ | ⟨g1, g2, g3, g5⟩ | ⟨g1, g2, g3, g4, g5⟩ | ⟨g1, g2, g3, g5⟩
      · have hY3 : Hid (x = (d, true)) := Lib.hid (by rw [hY2.out]; unfold headsZ heads3; rw [if_pos rfl, if_pos g1])
        go_wp2_with (fail)
        go_ret
        rw [hY3.out]
        exact CrPost.mk hbbl (.inr ⟨hwl, hVl⟩) HV.out.1 HV.out.2 rfl
      · have hY3 : Hid (x = (failsF d 193, false)) := Lib.hid (by rw [hY2.out]; unfold headsZ heads3; rw [if_pos rfl, if_neg (by simp only; omega), if_pos g2])
        go_wp2_with (fail)
        refine (fails_any b bR d 193 V HV.out.1).mono ?_
        rintro e w5 ⟨rfl, h3, k3⟩
        go_wp2_with (fail)
        go_ret
        rw [hY3.out]
        exact CrPost.mk hbbl (.inr ⟨hwl, by have := k3.size; omega⟩) h3 (Kept.to2 HV.out.2 (.inr hwl) k3) rfl
      · have hY3 : Hid (x = (failsF d 192, false)) := Lib.hid (by rw [hY2.out]; unfold headsZ heads3; rw [if_pos rfl, if_neg (by simp only; omega), if_neg (by simp only; omega), if_pos (by simp only; omega)])
        have g2f : decide (d.limit < z) = false := decide_eq_false (by omega)
        have g4f : (d.total != z) = true := by simpa using g4
        clear g4
        go_wp2_with (fail)
        refine (fails_any b bR d 192 V HV.out.1).mono ?_
        rintro e w5 ⟨rfl, h3, k3⟩
        go_wp2_with (fail)
        go_ret
        rw [hY3.out]
        exact CrPost.mk hbbl (.inr ⟨hwl, by have := k3.size; omega⟩) h3 (Kept.to2 HV.out.2 (.inr hwl) k3) rfl
      · have hY3 : Hid (x = (failsF d 192, false)) := Lib.hid (by rw [hY2.out]; unfold headsZ heads3; rw [if_pos rfl, if_neg (by simp only; omega), if_neg (by simp only; omega), if_pos (by simp only; omega)])
        have g2f : decide (d.limit < z) = false := decide_eq_false (by omega)
        have g4f : (d.total != z) = false := by simpa using g4
        clear g4
        go_wp2_with (fail)
        refine (fails_any b bR d 192 V HV.out.1).mono ?_
        rintro e w5 ⟨rfl, h3, k3⟩
        go_wp2_with (fail)
        go_ret
        rw [hY3.out]
        exact CrPost.mk hbbl (.inr ⟨hwl, by have := k3.size; omega⟩) h3 (Kept.to2 HV.out.2 (.inr hwl) k3) rfl
      · have hY3 : Hid (x = (failsF d 192, false)) := Lib.hid (by rw [hY2.out]; unfold headsZ heads3; rw [if_pos rfl, if_neg (by simp only; omega), if_neg (by simp only; omega), if_pos (by simp only; omega)])
        have g2f : decide (d.limit < z) = false := decide_eq_false (by omega)
        have g3f : decide (0 ≤ d.total) = false := decide_eq_false (by omega)
        go_wp2_with (fail)
        refine (fails_any b bR d 192 V HV.out.1).mono ?_
        rintro e w5 ⟨rfl, h3, k3⟩
        go_wp2_with (fail)
        go_ret
        rw [hY3.out]
        exact CrPost.mk hbbl (.inr ⟨hwl, by have := k3.size; omega⟩) h3 (Kept.to2 HV.out.2 (.inr hwl) k3) rfl
      · have hY3 : Hid (x = ({ d with total := z }, true)) := Lib.hid (by rw [hY2.out]; unfold headsZ heads3; rw [if_pos rfl, if_neg (by simp only; omega), if_neg (by simp only; omega), if_neg (by simp only; omega)])
        have g2f : decide (d.limit < z) = false := decide_eq_false (by omega)
        have g4f : (d.total != z) = false := by simpa using g4
        have g5f : decide (z < d.got) = false := decide_eq_false (by omega)
        clear g4
        go_wp2_with (fail)
        go_ret
        rw [hY3.out]
        exact CrPost.mk hbbl (.inr ⟨hwl, by simpa using hVl⟩) (HV.out.1.set10 z) (HV.out.2.setCell (.inl (by simp)) _) rfl
      · have hY3 : Hid (x = ({ d with total := z }, true)) := Lib.hid (by rw [hY2.out]; unfold headsZ heads3; rw [if_pos rfl, if_neg (by simp only; omega), if_neg (by simp only; omega), if_neg (by simp only; omega)])
        have g2f : decide (d.limit < z) = false := decide_eq_false (by omega)
        have g3f : decide (0 ≤ d.total) = false := decide_eq_false (by omega)
        have g5f : decide (z < d.got) = false := decide_eq_false (by omega)
        go_wp2_with (fail)
        go_ret
        rw [hY3.out]
        exact CrPost.mk hbbl (.inr ⟨hwl, by simpa using hVl⟩) (HV.out.1.set10 z) (HV.out.2.setCell (.inl (by simp)) _) rfl
end CL
end
end Go.Proofs.YtgdncdhalnijcaaGreatDoor
