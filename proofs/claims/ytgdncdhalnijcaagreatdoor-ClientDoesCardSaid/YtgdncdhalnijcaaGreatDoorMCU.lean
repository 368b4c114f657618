/- Walks and lemmas on the program of this seat, used by its statements; each theorem bears its own conditions. -/
import Derived.Test.YtgdncdhalnijcaaGreatDoorMCS
import Derived.Test.YtgdncdhalnijcaaGreatDoorMCP
import Derived.Test.YtgdncdhalnijcaaGreatDoorMHL
import Derived.Handy
import Derived.Recover
import Derived.IntWalk
import Derived.Deep.CutRange
import Derived.OwnWalk
import Derived.Deep.AppendLies
import Derived.Deep.RegionLaw
import Derived.Deep.RegionHeld3
import Derived.StillTailTactics
import Derived.RegionTactic
import Derived.ChangeAlike
namespace Go.Proofs.YtgdncdhalnijcaaGreatDoor
open Go.RowKit
set_option linter.unusedVariables false
set_option linter.unusedSimpArgs false
section
namespace CL
set_option maxHeartbeats 8000000
set_option maxRecDepth 100000
/-! ### In -/
theorem CrPost.mk2 {v : Value} {b bb b2 : Nat} {w w' : World} {c : Cl} (hl : bb < w.heap.size) (hb : b2 = bb ∨ w.heap.size ≤ b2) (hl2 : b2 < w'.heap.size) (h : ClAt w' b b2 c) (k : Kept [b, bb] w w') : CrPost v b bb w c (.returned v) w' := ⟨rfl, b2, hb, hl2, h, k⟩
theorem bd_body {c : Cl} (h : c.Bd) (x : Option BD.Rd) : ({ c with body := x } : Cl).Bd := ⟨h.f0, h.f1, h.l1, h.t0, h.t1, h.r0, h.r1, h.w0, h.w1, h.g0, h.g1, h.o0, h.o1, h.n0, h.n1, h.y0, h.y1, h.a0, h.a1, h.k0, h.k1, h.b0, h.b1, h.s0, h.s1, h.p0, h.p1, h.q0, h.q1⟩
theorem bd_head {c : Cl} (h : c.Bd) (x : List UInt8) : ({ c with head := x } : Cl).Bd := ⟨h.f0, h.f1, h.l1, h.t0, h.t1, h.r0, h.r1, h.w0, h.w1, h.g0, h.g1, h.o0, h.o1, h.n0, h.n1, h.y0, h.y1, h.a0, h.a1, h.k0, h.k1, h.b0, h.b1, h.s0, h.s1, h.p0, h.p1, h.q0, h.q1⟩
theorem in2_facts {r r' : BD.Rd} {o : List UInt8} {k : Int} (hr : r.Ok) (he : r.e = 0) (ht : r.rest = []) (s : List UInt8) (hw : BD.writeF r s = (r', o, k)) : (k = 0 → r'.Ok ∧ r'.e = 0 ∧ o.length ≤ s.length) ∧ o.length ≤ s.length := by
  obtain ⟨r1, o1, k1, hf⟩ : ∃ r1 o1 k1, BD.feeds r s = (r1, o1, k1) := ⟨_, _, _, rfl⟩
  have hol := BD.out_feeds s r
  rw [hf] at hol
  by_cases hk : k1 = 0
  · subst hk
    have h1 := BD.write_ok he hf
    rw [h1] at hw
    cases hw
    obtain ⟨hi, h2, h3⟩ := hr he
    have hi1 := BD.inv_feeds s hi ⟨h2, h3⟩ (by rw [hf])
    rw [hf] at hi1
    exact ⟨fun _ => ⟨fun _ => hi1, by rw [(BD.feeds_e hf).1]; exact he, hol⟩, hol⟩
  · have h1 := BD.write_err he hf hk
    rw [h1] at hw
    cases hw
    exact ⟨fun e => absurd e hk, by simp⟩
theorem heads3_head (c : Cl) (z : Int) : (heads3 c z).2 = true → (heads3 c z).1.head = c.head := by
  unfold heads3
  split
  · exact fun _ => rfl
  split
  · intro e; cases e
  split
  · intro e; cases e
  · exact fun _ => rfl
theorem headsF_head (c : Cl) (h : Hd) : (headsF c h).2 = true → (headsF c h).1.head = c.head := by
  unfold headsF
  split
  · intro e; cases e
  split
  · intro e; cases e
  split
  · unfold heads2
    split
    · split
      · intro e; rw [heads3_head _ _ e]
      · intro e; cases e
    · intro e; rw [heads3_head _ _ e]
  · intro e; cases e
theorem own_slice {B : Nat} {w : World} {v : Value} {l : List (List UInt8)} (h : OwnT B w v l) : ∃ (p : Option Addr) (cap : Nat), v = .slice p l.length cap := by
  rcases h.2 with ⟨rfl, hn⟩ | ⟨g, cap, cur, rfl, _⟩
  · exact ⟨none, 0, by rw [hn]⟩
  · exact ⟨_, _, rfl⟩
def in1p (dh : Cl) (hd : List UInt8) (pr : HR) : Cl × List UInt8 := match pr with | .done h n => in1h dh hd h n | .fail e => if e = 172 then (dh, []) else (failsF dh 192, []) | .on _ _ => (dh, [])
theorem in1n_p (d : Cl) (hd : List UInt8) : in1n d hd = in1p { d with head := hd } hd (parseF hd) := rfl
theorem turn_err {s : List UInt8} {h : Hd} {n e : Nat} (ht : turnF s h n = .fail e) : e ≠ 0 := by
  unfold turnF at ht
  cases hc : crlf (s.drop n) with
  | none => rw [hc] at ht; simp only at ht; cases ht; split <;> decide
  | some i =>
    rw [hc] at ht
    simp only at ht
    split at ht
    · cases ht; decide
    split at ht
    · split at ht
      · cases ht; decide
      · cases ht
    split at ht
    · cases ht
    · rcases fieldF_cases ((s.drop n).take i) h (n + i + 2) with q | q | ⟨q, _⟩ <;> rw [q] at ht <;> cases ht <;> decide
theorem run_err (s : List UInt8) : ∀ (f : Nat) (h : Hd) (n e : Nat), runF s f h n = .fail e → e ≠ 0
  | 0, _, _, _, q => by cases q; decide
  | f + 1, h, n, e, q => by
    unfold runF at q
    cases ht : turnF s h n with
    | fail k => rw [ht] at q; cases q; exact turn_err ht
    | done h1 n1 => rw [ht] at q; cases q
    | on h1 n1 => rw [ht] at q; exact run_err s f _ _ _ q
set_option maxRecDepth 100000 in
set_option maxHeartbeats 40000000 in
theorem in_any (b bb : Nat) (c : Cl) (s : List UInt8) (w : World) (H : ClAt w b bb c) (hk : c.Ok) (hL : Lies w b bb) (hs : s.length ≤ 999000000) (x : Cl × List UInt8) (hx : inF c s = x) :
    Calls Tryz.prog 17 #[Ptr b, S s] w (CrPost (S x.2) b bb w x.1) := by
  have HX := Lib.hid hx
  have HK := Lib.hid hk
  have HL := Lib.hid hL
  have HBB := Lib.hid hL.lt
  have hsI : (s.length : Int) ≤ 999000000 := by omega
  clear hx hk hL
  obtain ⟨c0, c1, c2, c3, c4, c5, c6, c7, c8, c9, c10, c11, c12, c13, c14, c15, c16, c17, c18, c19, c20⟩ := (H).cells
  have hf := (H).free
  have HH := Lib.hid H
  clear H
  go_enter Tryz.func17, Tryz.ntmps17
  by_cases h1 : c.state = 1
  case neg =>
    have hb : (c.state != 1) = true := by simpa using h1
    have hY : Hid (x = (c, [])) := Lib.hid (by rw [← HX.out]; unfold inF; rw [if_neg h1])
    clear h1
    go_wp2_with (fail)
    go_ret
    rw [hY.out]
    exact CrPost.mk2 HBB.out (.inl rfl) HBB.out HH.out (Kept.refl _ _)
  case pos =>
  have hb : (c.state != 1) = false := by simpa using h1
  obtain ⟨d, hd⟩ : ∃ d : Cl, (if s = [] then c else { c with last := c.now }) = d := ⟨_, rfl⟩
  have hfacts : d.Ok ∧ d.state = 1 ∧ d.body = c.body ∧ d.head = c.head := by
    have h := HK.out
    rw [← hd]
    split
    · exact ⟨h, h1, rfl, rfl⟩
    · exact ⟨⟨⟨h.bd.f0, h.bd.f1, h.bd.l1, h.bd.t0, h.bd.t1, h.bd.r0, h.bd.r1, h.bd.w0, h.bd.w1, h.bd.g0, h.bd.g1, h.bd.o0, h.bd.o1, h.bd.n0, h.bd.n1, h.bd.y0, h.bd.y1, h.bd.a0, h.bd.a1, h.bd.k0, h.bd.k1, h.bd.b0, h.bd.b1, h.bd.n0, Int.le_refl _, h.bd.p0, h.bd.p1, h.bd.q0, h.bd.q1⟩, h.st0, h.st1, h.tr, h.ho, h.ta, h.bo, h.rd, h.hd⟩, h1, rfl, rfl⟩
  have hX1 : Hid (x = in1 d s) := Lib.hid (by rw [← HX.out]; unfold inF; rw [if_pos h1, hd])
  have HF := Lib.hid hfacts
  clear hfacts h1
  go_upto_if 16 with (fail)
  go_cut [] from 15 to 23 (fun wx => ClAt wx b bb d ∧ Kept [b, bb] w wx)
  case first =>
    by_cases hse : s = []
    · have hde : d = c := by rw [← hd, if_pos hse]
      have HDE := Lib.hid hde
      subst hse
      clear hd hde
      go_wp2_with (fail)
      go_meet
      exact ⟨by rw [HDE.out]; exact HH.out, Kept.refl _ _⟩
    · have hde : d = { c with last := c.now } := by rw [← hd, if_neg hse]
      have HDE := Lib.hid hde
      have hsb : (s != []) = true := by simpa using hse
      have hsb2 : (!s.isEmpty) = true := by simpa using hse
      clear hd hde hse
      go_wp2_with (fail)
      all_goals first
        | (rename_i hh; rw [hsb2] at hh; cases hh; done)
        | (go_meet; exact ⟨by rw [HDE.out]; exact HH.out.set16 c.now, (Kept.refl _ _).setCell (.inl (by simp)) _⟩)
  case rest =>
  obtain ⟨h2, k2⟩ := hcut
  clear c0 c1 c2 c3 c4 c5 c6 c7 c8 c9 c10 c11 c12 c13 c14 c15 c16 c17 c18 c19 c20 hf
  clear hd
  obtain ⟨c0, c1, c2, c3, c4, c5, c6, c7, c8, c9, c10, c11, c12, c13, c14, c15, c16, c17, c18, c19, c20⟩ := (h2).cells
  have hf := (h2).free
  have HDk := Lib.hid (And.intro h2 k2)
  clear h2 k2
  cases hbd : d.body with
  | some r =>
    have hbv : d.bv bb = Ptr bb := by unfold Cl.bv; rw [hbd]
    rw [hbv] at c18
    have hX2 : Hid (x = in2 d r s) := Lib.hid (by rw [hX1.out]; unfold in1; rw [hbd])
    have HBS := Lib.hid hbd
    have HR : Hid (r.Ok ∧ r.e = 0 ∧ r.rest = [] ∧ True) := Lib.hid (by
      obtain ⟨f1, f2, f3, f4⟩ := HF.out
      obtain ⟨g1, g2, g3⟩ := f1.rd f2 r hbd
      exact ⟨f1.bo r hbd, g1, g3, trivial⟩)
    have HBd := Lib.hid HF.out.1.bd
    have HB3 : Hid (bb < wc.heap.size) := Lib.hid (by have := HDk.out.2.size; have := HBB.out; omega)
    clear hbv hbd
    obtain ⟨r', o, k, hwr⟩ : ∃ r' o k, BD.writeF r s = (r', o, k) := ⟨_, _, _, rfl⟩
    have hol := BD.out_feeds s r
    obtain ⟨q1, q2, q3, q4⟩ := HR.out
    have hr'ok := in2_facts q1 q2 q3 s hwr
    have HW := Lib.hid (BD.write_as bb s r r' o k wc (HDk.out.1.rd r HBS.out) q1 (by rw [q3]; simp only [List.length_nil]; omega) hwr)
    have hbs : (d).body.isSome = true := by rw [HBS.out]; rfl
    have HBI := Lib.hid hbs
    clear hbs hol q1 q2 q3 q4
    go_wp2_with (fail)
    refine HW.out.mono ?_
    rintro e w5 ⟨rfl, r5, k5⟩
    have h5 := HDk.out.1.body HBI.out k5 r5
    have k6 := Kept.to2 HDk.out.2 (.inl rfl) (Kept.one (b := b) (ofBD k5))
    have hl5 : bb < w5.heap.size := by have := k5.size; have := HB3.out; omega
    have H5 := Lib.hid (And.intro h5 (And.intro k6 hl5))
    clear c0 c1 c2 c3 c4 c5 c6 c7 c8 c9 c10 c11 c12 c13 c14 c15 c16 c17 c18 c19 c20 hf
    obtain ⟨c0, c1, c2, c3, c4, c5, c6, c7, c8, c9, c10, c11, c12, c13, c14, c15, c16, c17, c18, c19, c20⟩ := (h5).cells
    have hf := (h5).free
    clear h5 k6 r5 k5 hl5
    by_cases hk : k = 0
    · obtain ⟨g1, g2, g3⟩ := hr'ok.1 hk
      have hY : Hid (x = in3 { d with body := some r' } o (BD.doneF r')) := Lib.hid (by rw [hX2.out]; unfold in2; rw [hwr]; simp only; rw [if_pos hk])
      subst hk
      obtain ⟨d2, out, htl⟩ : ∃ d2 out, toldF { d with body := some r' } o = (d2, out) := ⟨_, _, rfl⟩
      obtain ⟨tb, ts, tt, th, tta, tbo, thd⟩ := told_bd (c := { d with body := some r' }) (bd_body HBd.out (some r')) o
      rw [htl] at tb ts tbo
      simp only at tb ts tbo
      have hY2 : Hid (x = if d2.state = 1 ∧ BD.doneF r' = true then (endsF d2, out) else (d2, out)) := Lib.hid (by rw [hY.out]; unfold in3; rw [htl])
      have HT := Lib.hid (told_any b bb { d with body := some r' } o w5 H5.out.1 (bd_body HBd.out (some r')) (by omega))
      rw [htl] at HT
      have hbv2 : d2.bv bb = Ptr bb := by unfold Cl.bv; rw [tbo]
      have HTB := Lib.hid (And.intro tb (And.intro tbo hbv2))
      clear hwr htl tb ts tt th tta tbo thd hbv2 g1 g2 g3 hr'ok
      go_wp2_with (fail)
      refine HT.out.mono ?_
      rintro e w6 ⟨rfl, h6, k6⟩
      have k7 := Kept.to2 H5.out.2.1 (.inl rfl) k6
      have hl6 : bb < w6.heap.size := by have := k6.size; have := H5.out.2.2; omega
      have HRd := Lib.hid (h6.rd r' HTB.out.2.1)
      clear c0 c1 c2 c3 c4 c5 c6 c7 c8 c9 c10 c11 c12 c13 c14 c15 c16 c17 c18 c19 c20 hf
      obtain ⟨c0, c1, c2, c3, c4, c5, c6, c7, c8, c9, c10, c11, c12, c13, c14, c15, c16, c17, c18, c19, c20⟩ := (h6).cells
      have hf := (h6).free
      rw [HTB.out.2.2] at c18
      have H6 := Lib.hid (And.intro h6 (And.intro k7 hl6))
      clear h6 k6 k7 hl6
      by_cases hs1 : d2.state = 1
      · have hs1b : (d2.state == 1) = true := by simpa using hs1
        cases hdn : BD.doneF r' with
        | true =>
          have hY3 : Hid (x = (endsF d2, out)) := Lib.hid (by rw [hY2.out, if_pos ⟨hs1, hdn⟩])
          have HDN := Lib.hid (show Calls Tryz.prog 34 #[Ptr bb] w6 (fun e w' => e = .returned (.bool true) ∧ w6 = w') by rw [← hdn]; exact BD.done_any bb r' w6 HRd.out)
          clear hs1 hdn
          go_wp2_with (fail)
          refine HDN.out.mono ?_
          rintro e w7 ⟨rfl, rfl⟩
          go_wp2_with (fail)
          refine (ends_any b bb d2 w6 H6.out.1 HTB.out.1).mono ?_
          rintro e w7 ⟨rfl, h7, k7⟩
          go_wp2_with (fail)
          go_ret
          rw [hY3.out]
          exact CrPost.mk2 HBB.out (.inl rfl) (by have := k7.size; have := H6.out.2.2; omega) h7 (Kept.to2 H6.out.2.1 (.inl rfl) k7)
        | false =>
          have hY3 : Hid (x = (d2, out)) := Lib.hid (by rw [hY2.out, if_neg (fun h => by rw [hdn] at h; cases h.2)])
          have HDN := Lib.hid (show Calls Tryz.prog 34 #[Ptr bb] w6 (fun e w' => e = .returned (.bool false) ∧ w6 = w') by rw [← hdn]; exact BD.done_any bb r' w6 HRd.out)
          clear hs1 hdn
          go_wp2_with (fail)
          refine HDN.out.mono ?_
          rintro e w7 ⟨rfl, rfl⟩
          go_wp2_with (fail)
          go_ret
          rw [hY3.out]
          exact CrPost.mk2 HBB.out (.inl rfl) H6.out.2.2 H6.out.1 H6.out.2.1
      · have hs1b : (d2.state == 1) = false := by simpa using hs1
        have hY3 : Hid (x = (d2, out)) := Lib.hid (by rw [hY2.out, if_neg (fun h => hs1 h.1)])
        clear hs1
        go_wp2_with (fail)
        go_ret
        rw [hY3.out]
        exact CrPost.mk2 HBB.out (.inl rfl) H6.out.2.2 H6.out.1 H6.out.2.1
    · have hY : Hid (x = (failsF { d with body := some r' } (formedF k), [])) := Lib.hid (by rw [hX2.out]; unfold in2; rw [hwr]; simp only; rw [if_neg hk])
      have hkb : (k != 0) = true := by simpa using hk
      clear hk hwr hr'ok
      go_wp2_with (fail)
      refine (formed_any k w5).mono ?_
      rintro e w6 ⟨rfl, rfl⟩
      go_wp2_with (fail)
      refine (fails_any b bb _ (formedF k) _ H5.out.1).mono ?_
      rintro e w7 ⟨rfl, h7, k7⟩
      go_wp2_with (fail)
      go_ret
      rw [hY.out]
      exact CrPost.mk2 HBB.out (.inl rfl) (by have := k7.size; have := H5.out.2.2; omega) h7 (Kept.to2 H5.out.2.1 (.inl rfl) k7)
  | none =>
    have hbv : d.bv bb = .pointer none := by unfold Cl.bv; rw [hbd]
    rw [hbv] at c18
    obtain ⟨hd, hhd⟩ : ∃ hd, d.head ++ s = hd := ⟨_, rfl⟩
    have hlen : hd.length ≤ 999100000 := by
      obtain ⟨f1, f2, f3, f4⟩ := HF.out
      have := f1.hd f2 hbd
      rw [← hhd, List.length_append]; omega
    have hsum : d.head.length + s.length ≤ 999100000 := by rw [← hhd, List.length_append] at hlen; exact hlen
    have hX2 : Hid (x = in1n d hd) := Lib.hid (by rw [hX1.out]; unfold in1; rw [hbd]; simp only; rw [hhd])
    obtain ⟨pr, hpr⟩ : ∃ pr, parseF hd = pr := ⟨_, rfl⟩
    have HPR := Lib.hid hpr
    obtain ⟨dh, hdh⟩ : ∃ dh : Cl, ({ d with head := hd } : Cl) = dh := ⟨_, rfl⟩
    have HBd : Hid dh.Bd := Lib.hid (by rw [← hdh]; exact bd_head HF.out.1.bd hd)
    have HPre : Hid (dh.Pre ∧ dh.state = 1 ∧ dh.body = none ∧ dh.head = hd) := Lib.hid (by
      obtain ⟨f1, f2, f3, f4⟩ := HF.out
      have h := f1.pre f2
      rw [← hdh]
      exact ⟨⟨bd_head h.bd hd, h.tr, h.ho, h.ta, h.bo⟩, f2, hbd, rfl⟩)
    have hX3 : Hid (x = in1p dh hd pr) := Lib.hid (by rw [hX2.out, in1n_p, hdh, HPR.out])
    have hV := HDk.out.1.set17 hd
    have kV : Kept [b, bb] w (wc.setCell ⟨b, 17, none⟩ (S hd)) := HDk.out.2.setCell (.inl (by simp)) _
    rw [hdh] at hV
    clear hdh hbd hbv hpr
    go_upto_region 7 with (fail)
    obtain ⟨V, hVe⟩ : ∃ V, wc.setCell ⟨b, 17, none⟩ (S hd) = V := ⟨_, rfl⟩
    rw [hVe] at hV kV
    (try rw [hhd])
    rw [hVe]
    clear hVe
    clear c0 c1 c2 c3 c4 c5 c6 c7 c8 c9 c10 c11 c12 c13 c14 c15 c16 c17 c18 c19 c20 hf
    obtain ⟨c0, c1, c2, c3, c4, c5, c6, c7, c8, c9, c10, c11, c12, c13, c14, c15, c16, c17, c18, c19, c20⟩ := (hV).cells
    have hf := (hV).free
    rw [HPre.out.2.2.2] at c17
    have hbV := hV.lt
    have HLV := HL.out.kept kV
    have HV := Lib.hid (And.intro hV (And.intro kV HLV))
    clear hV kV HLV hhd
    have HP := Lib.hid (parse_any hd V (by omega) HV.out.2.2.ml pr HPR.out)
    go_wp2_with (fail)
    refine HP.out.mono ?_
    rintro e w4 ⟨v1, v2, rfl, o1, o2, k4⟩
    obtain ⟨p1, cp1, hv1⟩ := own_slice o1
    obtain ⟨p2, cp2, hv2⟩ := own_slice o2
    have hbx := heap_new w4 (.cells #[I pr.head.st, v1, v2] HdT)
    have k5 : Kept [] V (w4.alloc (.cells #[I pr.head.st, v1, v2] HdT)) := k4.alloc _
    have hg4 : V.heap.size ≤ w4.heap.size := k4.size
    have h5 := HV.out.1.kept k5 (by simp) (by simp)
    have k6 : Kept [b, bb] w (w4.alloc (.cells #[I pr.head.st, v1, v2] HdT)) := HV.out.2.1.trans' (Kept.two k5)
    have o1' := o1.kept ((Kept.refl [] w4).alloc (.cells #[I pr.head.st, v1, v2] HdT))
    have o2' := o2.kept ((Kept.refl [] w4).alloc (.cells #[I pr.head.st, v1, v2] HdT))
    clear c0 c1 c2 c3 c4 c5 c6 c7 c8 c9 c10 c11 c12 c13 c14 c15 c16 c17 c18 c19 c20 hf
    clear o1 o2 k4
    subst hv1 hv2
    go_upto_region 8 with (fail)
    obtain ⟨W, hWe⟩ : ∃ W, w4.alloc (.cells #[I pr.head.st, .slice p1 pr.head.ns.length cp1, .slice p2 pr.head.vs.length cp2] HdT) = W := ⟨_, rfl⟩
    have hWe' : w4.alloc (.cells #[Value.int .i64 pr.head.st, .slice p1 pr.head.ns.length cp1, .slice p2 pr.head.vs.length cp2] HdT) = W := hWe
    rw [hWe] at hbx k5 h5 k6 o1' o2'
    (try first | rw [hWe'] | rw [hWe])
    (try rw [hWe])
    generalize w4.heap.size = g at hbx hg4 ⊢
    have hgb : g ≠ b := by omega
    have hgbb : g ≠ bb := by have := HV.out.2.2.lt; omega
    obtain ⟨z0, z1, z2⟩ := cells3 hbx
    obtain ⟨c0, c1, c2, c3, c4, c5, c6, c7, c8, c9, c10, c11, c12, c13, c14, c15, c16, c17, c18, c19, c20⟩ := (h5).cells
    have hf := (h5).free
    have H5 := Lib.hid (And.intro h5 (And.intro k6 (HL.out.kept k6)))
    have HO := Lib.hid (And.intro o1' o2')
    clear h5 k6 o1' o2' hWe hWe' hbx k5
    cases pr with
    | on a n => exact absurd HPR.out (by unfold parseF; exact runF_on _ _ _ _ _ _)
    | fail e =>
      by_cases he : e = 172
      · subst he
        have hY : Hid (x = (dh, [])) := Lib.hid (by rw [hX3.out]; rfl)
        have hee : ((HR.fail 172).err : Int) = 172 := rfl
        go_wp2_with (fail)
        go_ret
        rw [hY.out]
        exact CrPost.mk2 HBB.out (.inl rfl) H5.out.2.2.lt H5.out.1 H5.out.2.1
      · have hY : Hid (x = (failsF dh 192, [])) := Lib.hid (by rw [hX3.out]; show (if e = 172 then (dh, []) else (failsF dh 192, [])) = _; rw [if_neg he])
        have hee : (((HR.fail e).err : Int) == 172) = false := by simp [HR.err]; omega
        have he0 : (((HR.fail e).err : Int) != 0) = true := by have := run_err hd 3000 zeroH 0 e HPR.out; simp [HR.err]; omega
        clear he
        go_wp2_with (fail)
        refine (fails_any b bb dh 192 W H5.out.1).mono ?_
        rintro e w7 ⟨rfl, h7, k7⟩
        go_wp2_with (fail)
        go_ret
        rw [hY.out]
        exact CrPost.mk2 HBB.out (.inl rfl) (by have := k7.size; have := H5.out.2.2.lt; omega) h7 (H5.out.2.1.trans' k7)
    | done h n =>
      obtain ⟨p1', p2', p3', p4', p5', p6', _⟩ := parse_ok HPR.out
      have hvals := run_vals hd 3000 zeroH h 0 n (by simp [zeroH]) HPR.out
      obtain ⟨d1, okb, hres⟩ : ∃ d1 okb, headsF dh h = (d1, okb) := ⟨_, _, rfl⟩
      have hX4 : Hid (x = if okb = true then (match d1.body with | some r => in2 d1 r (hd.drop n) | none => (d1, [])) else (d1, [])) := Lib.hid (by
        rw [hX3.out]; show in1h dh hd h n = _; unfold in1h; rw [hres]; cases okb <;> rfl)
      have HN1 : Hid (∀ V', Kept [b] W V' → StrsAt V' (.slice p1 h.ns.length cp1) h.ns) := Lib.hid fun V' k => StrsAt.of_texts ((HO.out.1.keptS k (by simp; exact hbV)).texts (by show h.ns.length ≤ _; have := p1'.few; omega))
      have HN2 : Hid (∀ V', Kept [b] W V' → StrsAt V' (.slice p2 h.vs.length cp2) h.vs) := Lib.hid fun V' k => StrsAt.of_texts ((HO.out.2.keptS k (by simp; exact hbV)).texts (by show h.vs.length ≤ _; have := p1'.few; have := p1'.same; omega))
      have HHD := Lib.hid (heads_any b bb dh h (.slice p1 h.ns.length cp1) (.slice p2 h.vs.length cp2) W H5.out.1 HPre.out.1 H5.out.2.2 HN1.out HN2.out (fun v hv => by have := hvals v hv; omega) (by omega) (d1, okb) hres)
      have hok := headsF_ok HPre.out.1 HPre.out.2.1 h
      have hhead := headsF_head dh h
      rw [hres] at hok hhead
      have HOK := Lib.hid (And.intro hok hhead)
      have hnl : n ≤ hd.length := p6'
      have hnl' : (n : Int) ≤ hd.length := by omega
      have e0 : ((HR.done h n).err : Int) = 0 := rfl
      have e1 : ((HR.done h n).many : Int) = n := rfl
      have e2 : (HR.done h n).head = h := rfl
      rw [e2] at z0 z1 z2 ⊢
      rw [e1]
      clear p1' p2' p3' p4' p5' p6' hvals hres hok hhead
      go_wp2_with (fail)
      refine HHD.out.mono ?_
      rintro e w5 ⟨rfl, b2, hb2, hl2, h6, k6⟩
      have hwb : b2 = bb ∨ w.heap.size ≤ b2 := by
        rcases hb2 with q | q
        · exact .inl q
        · right; have := H5.out.2.1.size; omega
      have k7 := H5.out.2.1.trans' k6
      clear c0 c1 c2 c3 c4 c5 c6 c7 c8 c9 c10 c11 c12 c13 c14 c15 c16 c17 c18 c19 c20 hf
      obtain ⟨c0, c1, c2, c3, c4, c5, c6, c7, c8, c9, c10, c11, c12, c13, c14, c15, c16, c17, c18, c19, c20⟩ := (h6).cells
      have hf := (h6).free
      have HDk := Lib.hid (And.intro h6 k7)
      have HB2 := Lib.hid hwb
      have HB3 := Lib.hid hl2
      clear h6 k6 k7 hb2 hwb hl2
      cases okb with
      | false =>
        have hY : Hid (x = (d1, [])) := Lib.hid (by rw [hX4.out]; rfl)
        go_wp2_with (fail)
        go_ret
        rw [hY.out]
        exact CrPost.mk2 HBB.out HB2.out HB3.out HDk.out.1 HDk.out.2
      | true =>
        obtain ⟨g1, g2, r, g3, g4, g5, g6⟩ := HOK.out.1.1 rfl
        have hhd1 := HOK.out.2 rfl
        rw [HPre.out.2.2.2] at hhd1
        rw [hhd1] at c17
        have hbv : d1.bv b2 = Ptr b2 := by unfold Cl.bv; rw [g3]
        rw [hbv] at c18
        have hX2' : Hid (x = in2 d1 r (hd.drop n)) := Lib.hid (by rw [hX4.out, if_pos rfl, g3])
        have HBS := Lib.hid g3
        have HR : Hid (r.Ok ∧ r.e = 0 ∧ r.rest = [] ∧ True) := Lib.hid ⟨g4, g5, g6, trivial⟩
        have HBd1 := Lib.hid g1.bd
        have hsd : (hd.drop n).length ≤ 999100000 := by rw [List.length_drop]; omega
        clear g1 g2 g3 g4 g5 g6 hhd1 hbv
        go_wp2_with (fail)
        obtain ⟨sd, hsd2⟩ : ∃ sd, hd.drop n = sd := ⟨_, rfl⟩
        rw [hsd2] at hX2' hsd ⊢
        clear hsd2 hX4 HOK HHD HO z0 z1 z2 HN1 HN2 HP
        obtain ⟨r', o, k, hwr⟩ : ∃ r' o k, BD.writeF r sd = (r', o, k) := ⟨_, _, _, rfl⟩
        have hol := BD.out_feeds sd r
        obtain ⟨q1, q2, q3, q4⟩ := HR.out
        have hr'ok := in2_facts q1 q2 q3 sd hwr
        have HW := Lib.hid (BD.write_as b2 sd r r' o k w5 (HDk.out.1.rd r HBS.out) q1 (by rw [q3]; simp only [List.length_nil]; omega) hwr)
        have hbs : (d1).body.isSome = true := by rw [HBS.out]; rfl
        have HBI := Lib.hid hbs
        clear hbs hol q1 q2 q3 q4
        refine HW.out.mono ?_
        rintro e w8 ⟨rfl, r5, k5⟩
        have h5 := HDk.out.1.body HBI.out k5 r5
        have k6 := Kept.to2 HDk.out.2 HB2.out (Kept.one (b := b) (ofBD k5))
        have hl5 : b2 < w8.heap.size := by have := k5.size; have := HB3.out; omega
        have H5 := Lib.hid (And.intro h5 (And.intro k6 hl5))
        clear c0 c1 c2 c3 c4 c5 c6 c7 c8 c9 c10 c11 c12 c13 c14 c15 c16 c17 c18 c19 c20 hf
        obtain ⟨c0, c1, c2, c3, c4, c5, c6, c7, c8, c9, c10, c11, c12, c13, c14, c15, c16, c17, c18, c19, c20⟩ := (h5).cells
        have hf := (h5).free
        clear h5 k6 r5 k5 hl5
        by_cases hk : k = 0
        · obtain ⟨g1, g2, g3⟩ := hr'ok.1 hk
          have hY : Hid (x = in3 { d1 with body := some r' } o (BD.doneF r')) := Lib.hid (by rw [hX2'.out]; unfold in2; rw [hwr]; simp only; rw [if_pos hk])
          subst hk
          obtain ⟨d2, out, htl⟩ : ∃ d2 out, toldF { d1 with body := some r' } o = (d2, out) := ⟨_, _, rfl⟩
          obtain ⟨tb, ts, tt, th, tta, tbo, thd⟩ := told_bd (c := { d1 with body := some r' }) (bd_body HBd1.out (some r')) o
          rw [htl] at tb ts tbo
          simp only at tb ts tbo
          have hY2 : Hid (x = if d2.state = 1 ∧ BD.doneF r' = true then (endsF d2, out) else (d2, out)) := Lib.hid (by rw [hY.out]; unfold in3; rw [htl])
          have HT := Lib.hid (told_any b b2 { d1 with body := some r' } o w8 H5.out.1 (bd_body HBd1.out (some r')) (by omega))
          rw [htl] at HT
          have hbv2 : d2.bv b2 = Ptr b2 := by unfold Cl.bv; rw [tbo]
          have HTB := Lib.hid (And.intro tb (And.intro tbo hbv2))
          clear hwr htl tb ts tt th tta tbo thd hbv2 g1 g2 g3 hr'ok
          go_wp2_with (fail)
          refine HT.out.mono ?_
          rintro e w6 ⟨rfl, h6, k6⟩
          have k7 := Kept.to2 H5.out.2.1 HB2.out k6
          have hl6 : b2 < w6.heap.size := by have := k6.size; have := H5.out.2.2; omega
          have HRd := Lib.hid (h6.rd r' HTB.out.2.1)
          clear c0 c1 c2 c3 c4 c5 c6 c7 c8 c9 c10 c11 c12 c13 c14 c15 c16 c17 c18 c19 c20 hf
          obtain ⟨c0, c1, c2, c3, c4, c5, c6, c7, c8, c9, c10, c11, c12, c13, c14, c15, c16, c17, c18, c19, c20⟩ := (h6).cells
          have hf := (h6).free
          rw [HTB.out.2.2] at c18
          have H6 := Lib.hid (And.intro h6 (And.intro k7 hl6))
          clear h6 k6 k7 hl6
          by_cases hs1 : d2.state = 1
          · have hs1b : (d2.state == 1) = true := by simpa using hs1
            cases hdn : BD.doneF r' with
            | true =>
              have hY3 : Hid (x = (endsF d2, out)) := Lib.hid (by rw [hY2.out, if_pos ⟨hs1, hdn⟩])
              have HDN := Lib.hid (show Calls Tryz.prog 34 #[Ptr b2] w6 (fun e w' => e = .returned (.bool true) ∧ w6 = w') by rw [← hdn]; exact BD.done_any b2 r' w6 HRd.out)
              clear hs1 hdn
              go_wp2_with (fail)
              refine HDN.out.mono ?_
              rintro e w7 ⟨rfl, rfl⟩
              go_wp2_with (fail)
              refine (ends_any b b2 d2 w6 H6.out.1 HTB.out.1).mono ?_
              rintro e w7 ⟨rfl, h7, k7⟩
              go_wp2_with (fail)
              go_ret
              rw [hY3.out]
              exact CrPost.mk2 HBB.out HB2.out (by have := k7.size; have := H6.out.2.2; omega) h7 (Kept.to2 H6.out.2.1 HB2.out k7)
            | false =>
              have hY3 : Hid (x = (d2, out)) := Lib.hid (by rw [hY2.out, if_neg (fun h => by rw [hdn] at h; cases h.2)])
              have HDN := Lib.hid (show Calls Tryz.prog 34 #[Ptr b2] w6 (fun e w' => e = .returned (.bool false) ∧ w6 = w') by rw [← hdn]; exact BD.done_any b2 r' w6 HRd.out)
              clear hs1 hdn
              go_wp2_with (fail)
              refine HDN.out.mono ?_
              rintro e w7 ⟨rfl, rfl⟩
              go_wp2_with (fail)
              go_ret
              rw [hY3.out]
              exact CrPost.mk2 HBB.out HB2.out H6.out.2.2 H6.out.1 H6.out.2.1
          · have hs1b : (d2.state == 1) = false := by simpa using hs1
            have hY3 : Hid (x = (d2, out)) := Lib.hid (by rw [hY2.out, if_neg (fun h => hs1 h.1)])
            clear hs1
            go_wp2_with (fail)
            go_ret
            rw [hY3.out]
            exact CrPost.mk2 HBB.out HB2.out H6.out.2.2 H6.out.1 H6.out.2.1
        · have hY : Hid (x = (failsF { d1 with body := some r' } (formedF k), [])) := Lib.hid (by rw [hX2'.out]; unfold in2; rw [hwr]; simp only; rw [if_neg hk])
          have hkb : (k != 0) = true := by simpa using hk
          clear hk hwr hr'ok
          go_wp2_with (fail)
          refine (formed_any k w8).mono ?_
          rintro e w6 ⟨rfl, rfl⟩
          go_wp2_with (fail)
          refine (fails_any b b2 _ (formedF k) _ H5.out.1).mono ?_
          rintro e w7 ⟨rfl, h7, k7⟩
          go_wp2_with (fail)
          go_ret
          rw [hY.out]
          exact CrPost.mk2 HBB.out HB2.out (by have := k7.size; have := H5.out.2.2; omega) h7 (Kept.to2 H5.out.2.1 HB2.out k7)
end CL
end
section
namespace CL
set_option maxHeartbeats 8000000
set_option maxRecDepth 100000
/-! ### New -/
theorem fresh_cl {w : World} (c : Cl) (hb : c.body = none) : ClAt (w.alloc (c.obj w.heap.size)) w.heap.size w.heap.size c :=
  ⟨heap_new w _, fun r hr => (by rw [hb] at hr; cases hr), fun e => (by rw [hb] at e; cases e)⟩
def CNPost (w : World) (ok : Bool) (c : Cl) (e : Ending) (w' : World) : Prop :=
  (ok = true ∧ ∃ b, w.heap.size ≤ b ∧ e = .returned (.tuple #[Ptr b, I 0]) ∧ ClAt w' b b c ∧ Kept [] w w') ∨ (ok = false ∧ e = .returned (.tuple #[.pointer none, I 190]) ∧ Kept [] w w')
set_option maxHeartbeats 4000000 in
theorem new_any (ho ta : List UInt8) (fr li tm tr wt : Int) (w : World) (hP : PT w) (h1 : ho.length ≤ 9223372036854775807) (h2 : ta.length ≤ 9223372036854775807) (hf1 : -9223372036854775808 ≤ fr) (hf2 : fr ≤ 9223372036854775807) :
    Calls Tryz.prog 8 #[.agg #[S ho, S ta, I fr, I li, I tm, I tr, I wt]] w (CNPost w (newOk ho ta fr li tm tr wt) (newCl ho ta fr li tm tr wt)) := by
  obtain ⟨rq, q, hq⟩ : ∃ rq q, reqF ho ta fr = (rq, q) := ⟨_, _, rfl⟩
  have HRQ := Lib.hid (fun W (k : Kept [] w W) => request_any ho ta fr W hf1 hf2 (.inr (hP.kept k)) h1 h2 (rq, q) hq)
  have HOK : Hid (newOk ho ta fr li tm tr wt = decide (q = 0 ∧ fr ≤ li ∧ li ≤ 1048576 ∧ 1 ≤ tm ∧ tm ≤ 1000 ∧ 1 ≤ wt ∧ wt ≤ 1000 ∧ 1 ≤ tr ∧ tr ≤ 16)) := Lib.hid (by unfold newOk; rw [hq])
  clear hq hP h1 h2
  have k0 : Kept [] w (w.alloc (.cells #[S ho, S ta, I fr, I li, I tm, I tr, I wt] 23)) := (Kept.refl _ _).alloc _
  have hbx := heap_new w (.cells #[S ho, S ta, I fr, I li, I tm, I tr, I wt] 23)
  have K0 := Lib.hid k0
  have HBX := Lib.hid hbx
  clear k0 hbx
  go_enter Tryz.func8, Tryz.ntmps8
  go_wp2_with (fail)
  refine (HRQ.out _ K0.out).mono ?_
  rintro e w1 ⟨rfl, k1⟩
  have hb1 := k1.at HBX.out (by simp)
  have K1 := Lib.hid (K0.out.trans' k1)
  have hg : w.heap.size < w1.heap.size := by have := lt_of_block hb1; exact this
  generalize w.heap.size = g at hb1 hg ⊢
  have y0 : w1.cell? ⟨g, 0, none⟩ = some (S ho) := by rw [cell_at hb1]; rfl
  have y1 : w1.cell? ⟨g, 1, none⟩ = some (S ta) := by rw [cell_at hb1]; rfl
  have y2 : w1.cell? ⟨g, 2, none⟩ = some (I fr) := by rw [cell_at hb1]; rfl
  have y3 : w1.cell? ⟨g, 3, none⟩ = some (I li) := by rw [cell_at hb1]; rfl
  have y4 : w1.cell? ⟨g, 4, none⟩ = some (I tm) := by rw [cell_at hb1]; rfl
  have y5 : w1.cell? ⟨g, 5, none⟩ = some (I tr) := by rw [cell_at hb1]; rfl
  have y6 : w1.cell? ⟨g, 6, none⟩ = some (I wt) := by rw [cell_at hb1]; rfl
  clear k1 hb1
  by_cases a1 : q = 0
  case neg =>
    have hY : Hid (newOk ho ta fr li tm tr wt = false) := Lib.hid (by rw [HOK.out]; exact decide_eq_false (fun h => a1 h.1))
    have b1 : ((q : Int) != 0) = true := by simp; omega
    clear a1
    go_wp2_with (fail)
    go_ret2
    exact .inr ⟨hY.out, rfl, K1.out⟩
  case pos =>
  by_cases a2 : fr ≤ li
  case neg =>
    have hY : Hid (newOk ho ta fr li tm tr wt = false) := Lib.hid (by rw [HOK.out]; exact decide_eq_false (fun h => a2 h.2.1))
    have b1 : ((q : Int) != 0) = false := by simp; omega
    have x1 : li < fr := by omega
    clear a1
    go_wp2_with (fail)
    go_ret2
    exact .inr ⟨hY.out, rfl, K1.out⟩
  case pos =>
  by_cases a3 : li ≤ 1048576
  case neg =>
    have hY : Hid (newOk ho ta fr li tm tr wt = false) := Lib.hid (by rw [HOK.out]; exact decide_eq_false (fun h => a3 h.2.2.1))
    have b1 : ((q : Int) != 0) = false := by simp; omega
    have d0 : decide (li < fr) = false := decide_eq_false (by omega)
    have x2 : 1048576 < li := by omega
    clear a1
    go_wp2_with (fail)
    go_ret2
    exact .inr ⟨hY.out, rfl, K1.out⟩
  case pos =>
  by_cases a4 : 1 ≤ tm
  case neg =>
    have hY : Hid (newOk ho ta fr li tm tr wt = false) := Lib.hid (by rw [HOK.out]; exact decide_eq_false (fun h => a4 h.2.2.2.1))
    have b1 : ((q : Int) != 0) = false := by simp; omega
    have d0 : decide (li < fr) = false := decide_eq_false (by omega)
    have d1 : decide (1048576 < li) = false := decide_eq_false (by omega)
    have x3 : tm < 1 := by omega
    clear a1
    go_wp2_with (fail)
    go_ret2
    exact .inr ⟨hY.out, rfl, K1.out⟩
  case pos =>
  by_cases a5 : tm ≤ 1000
  case neg =>
    have hY : Hid (newOk ho ta fr li tm tr wt = false) := Lib.hid (by rw [HOK.out]; exact decide_eq_false (fun h => a5 h.2.2.2.2.1))
    have b1 : ((q : Int) != 0) = false := by simp; omega
    have d0 : decide (li < fr) = false := decide_eq_false (by omega)
    have d1 : decide (1048576 < li) = false := decide_eq_false (by omega)
    have d2 : decide (tm < 1) = false := decide_eq_false (by omega)
    have x4 : 1000 < tm := by omega
    clear a1
    go_wp2_with (fail)
    go_ret2
    exact .inr ⟨hY.out, rfl, K1.out⟩
  case pos =>
  by_cases a6 : 1 ≤ wt
  case neg =>
    have hY : Hid (newOk ho ta fr li tm tr wt = false) := Lib.hid (by rw [HOK.out]; exact decide_eq_false (fun h => a6 h.2.2.2.2.2.1))
    have b1 : ((q : Int) != 0) = false := by simp; omega
    have d0 : decide (li < fr) = false := decide_eq_false (by omega)
    have d1 : decide (1048576 < li) = false := decide_eq_false (by omega)
    have d2 : decide (tm < 1) = false := decide_eq_false (by omega)
    have d3 : decide (1000 < tm) = false := decide_eq_false (by omega)
    have x5 : wt < 1 := by omega
    clear a1
    go_wp2_with (fail)
    go_ret2
    exact .inr ⟨hY.out, rfl, K1.out⟩
  case pos =>
  by_cases a7 : wt ≤ 1000
  case neg =>
    have hY : Hid (newOk ho ta fr li tm tr wt = false) := Lib.hid (by rw [HOK.out]; exact decide_eq_false (fun h => a7 h.2.2.2.2.2.2.1))
    have b1 : ((q : Int) != 0) = false := by simp; omega
    have d0 : decide (li < fr) = false := decide_eq_false (by omega)
    have d1 : decide (1048576 < li) = false := decide_eq_false (by omega)
    have d2 : decide (tm < 1) = false := decide_eq_false (by omega)
    have d3 : decide (1000 < tm) = false := decide_eq_false (by omega)
    have d4 : decide (wt < 1) = false := decide_eq_false (by omega)
    have x6 : 1000 < wt := by omega
    clear a1
    go_wp2_with (fail)
    go_ret2
    exact .inr ⟨hY.out, rfl, K1.out⟩
  case pos =>
  by_cases a8 : 1 ≤ tr
  case neg =>
    have hY : Hid (newOk ho ta fr li tm tr wt = false) := Lib.hid (by rw [HOK.out]; exact decide_eq_false (fun h => a8 h.2.2.2.2.2.2.2.1))
    have b1 : ((q : Int) != 0) = false := by simp; omega
    have d0 : decide (li < fr) = false := decide_eq_false (by omega)
    have d1 : decide (1048576 < li) = false := decide_eq_false (by omega)
    have d2 : decide (tm < 1) = false := decide_eq_false (by omega)
    have d3 : decide (1000 < tm) = false := decide_eq_false (by omega)
    have d4 : decide (wt < 1) = false := decide_eq_false (by omega)
    have d5 : decide (1000 < wt) = false := decide_eq_false (by omega)
    have x7 : tr < 1 := by omega
    clear a1
    go_wp2_with (fail)
    go_ret2
    exact .inr ⟨hY.out, rfl, K1.out⟩
  case pos =>
  by_cases a9 : tr ≤ 16
  case neg =>
    have hY : Hid (newOk ho ta fr li tm tr wt = false) := Lib.hid (by rw [HOK.out]; exact decide_eq_false (fun h => a9 h.2.2.2.2.2.2.2.2))
    have b1 : ((q : Int) != 0) = false := by simp; omega
    have d0 : decide (li < fr) = false := decide_eq_false (by omega)
    have d1 : decide (1048576 < li) = false := decide_eq_false (by omega)
    have d2 : decide (tm < 1) = false := decide_eq_false (by omega)
    have d3 : decide (1000 < tm) = false := decide_eq_false (by omega)
    have d4 : decide (wt < 1) = false := decide_eq_false (by omega)
    have d5 : decide (1000 < wt) = false := decide_eq_false (by omega)
    have d6 : decide (tr < 1) = false := decide_eq_false (by omega)
    have x8 : 16 < tr := by omega
    clear a1
    go_wp2_with (fail)
    go_ret2
    exact .inr ⟨hY.out, rfl, K1.out⟩
  case pos =>
  have hY : Hid (newOk ho ta fr li tm tr wt = true) := Lib.hid (by rw [HOK.out]; exact decide_eq_true ⟨a1, a2, a3, a4, a5, a6, a7, a8, a9⟩)
  have b1 : ((q : Int) != 0) = false := by simp; omega
  have d0 : decide (li < fr) = false := decide_eq_false (by omega)
  have d1 : decide (1048576 < li) = false := decide_eq_false (by omega)
  have d2 : decide (tm < 1) = false := decide_eq_false (by omega)
  have d3 : decide (1000 < tm) = false := decide_eq_false (by omega)
  have d4 : decide (wt < 1) = false := decide_eq_false (by omega)
  have d5 : decide (1000 < wt) = false := decide_eq_false (by omega)
  have d6 : decide (tr < 1) = false := decide_eq_false (by omega)
  have d7 : decide (16 < tr) = false := decide_eq_false (by omega)
  clear a1
  go_wp2_with (fail)
  go_ret2
  exact .inl ⟨hY.out, w1.heap.size, K1.out.size, rfl, fresh_cl (newCl ho ta fr li tm tr wt) rfl, K1.out.alloc _⟩
end CL
end
end Go.Proofs.YtgdncdhalnijcaaGreatDoor
