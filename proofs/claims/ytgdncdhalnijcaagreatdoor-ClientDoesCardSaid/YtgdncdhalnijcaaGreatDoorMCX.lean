/- Walks and lemmas on the program of this seat, used by its statements; each theorem bears its own conditions. -/
import Derived.Test.YtgdncdhalnijcaaGreatDoorMCU
import Derived.Test.YtgdncdhalnijcaaGreatDoorMCP
import Derived.Handy
import Derived.Recover
import Derived.IntWalk
import Derived.Deep.CutRange
import Derived.OwnWalk
import Derived.Deep.AppendLies
import Derived.Deep.RegionLaw
import Derived.Deep.RegionHeld3
import Derived.StillTailTactics
import Derived.RegionTactic
import Derived.ChangeAlike
namespace Go.Proofs.YtgdncdhalnijcaaGreatDoor
open Go.RowKit
set_option linter.unusedVariables false
set_option linter.unusedSimpArgs false
section
namespace CL
set_option maxHeartbeats 8000000
set_option maxRecDepth 100000
/-! ### A client at hand -/
structure At0 (w0 w : World) (b bb : Nat) (c : Cl) : Prop where
  cl : ClAt w b bb c
  ok : c.Ok
  li : Lies w b bb
  kp : Kept [] w0 w
  h1 : w0.heap.size ≤ b
  h2 : w0.heap.size ≤ bb
theorem At0.go {w0 w w' : World} {b bb b2 : Nat} {c c' : Cl} (A : At0 w0 w b bb c) (k : Kept [b, bb] w w') (h : ClAt w' b b2 c') (hb : b2 = bb ∨ w.heap.size ≤ b2) (hl : b2 < w'.heap.size) (ok : c'.Ok) : At0 w0 w' b b2 c' :=
  ⟨h, ok, A.li.next k hb hl, A.kp.new k (by intro x hx; simp at hx; rcases hx with rfl | rfl; exact A.h1; exact A.h2), A.h1, by rcases hb with rfl | hb; exact A.h2; (have := A.kp.size; omega)⟩
theorem At0.same {w0 w w' : World} {b bb : Nat} {c : Cl} (A : At0 w0 w b bb c) (k : Kept [] w w') : At0 w0 w' b bb c :=
  ⟨A.cl.kept k (by simp) (by simp), A.ok, A.li.same k, A.kp.trans' k, A.h1, A.h2⟩
def CStep (w0 : World) (b : Nat) (v : Value) (c : Cl) (e : Ending) (w' : World) : Prop := e = .returned v ∧ ∃ b2, At0 w0 w' b b2 c
theorem At0.step {w0 w w' : World} {b bb : Nat} {c c' : Cl} {v : Value} {e : Ending} (A : At0 w0 w b bb c) (h : ClPost v b bb w c' e w') (ok : c'.Ok) : CStep w0 b v c' e w' :=
  ⟨h.1, bb, A.go h.2.2 h.2.1 (.inl rfl) (by have := A.li.lt; have := h.2.2.size; omega) ok⟩
theorem At0.out {w0 w : World} {b bb : Nat} {c : Cl} (A : At0 w0 w b bb c) : Calls Tryz.prog 16 #[Ptr b] w (CStep w0 b (S (outF c).2) (outF c).1) :=
  (out_any b bb c w A.cl A.ok.bd A.li.pt ⟨A.ok.ho, A.ok.ta⟩).mono fun _ _ h => A.step h A.ok.out
theorem At0.tick {w0 w : World} {b bb : Nat} {c : Cl} (A : At0 w0 w b bb c) (n : Int) (hn : n ≤ 9223372036854775807) : Calls Tryz.prog 13 #[Ptr b, I n] w (CStep w0 b (.tuple #[]) (tickF c n)) :=
  (tick_any b bb c n w A.cl A.ok.bd hn).mono fun _ _ h => A.step h (A.ok.tick n)
theorem At0.lost {w0 w : World} {b bb : Nat} {c : Cl} (A : At0 w0 w b bb c) : Calls Tryz.prog 18 #[Ptr b] w (CStep w0 b (.tuple #[]) (lostF c)) :=
  (lost_any b bb c w A.cl A.ok).mono fun _ _ h => A.step h A.ok.lost
theorem At0.inn {w0 w : World} {b bb : Nat} {c : Cl} (A : At0 w0 w b bb c) (s : List UInt8) (hs : s.length ≤ 999000000) : Calls Tryz.prog 17 #[Ptr b, S s] w (CStep w0 b (S (inF c s).2) (inF c s).1) :=
  (in_any b bb c s w A.cl A.ok A.li hs _ rfl).mono fun _ _ h => by
    obtain ⟨h1, b2, hb, hl, h, k⟩ := h
    exact ⟨h1, b2, A.go k h hb hl (A.ok.inn s)⟩
theorem At0.state {w0 w : World} {b bb : Nat} {c : Cl} (A : At0 w0 w b bb c) : Calls Tryz.prog 12 #[Ptr b] w fun e w' => e = .returned (.tuple #[I c.state, I c.e]) ∧ At0 w0 w' b bb c :=
  (state_any b bb c w A.cl).mono fun _ _ h => ⟨h.1, A.same h.2.2⟩
theorem At0.got {w0 w : World} {b bb : Nat} {c : Cl} (A : At0 w0 w b bb c) : Calls Tryz.prog 11 #[Ptr b] w fun e w' => e = .returned (I c.got) ∧ w' = w := got_any b bb c w A.cl
theorem At0.total {w0 w : World} {b bb : Nat} {c : Cl} (A : At0 w0 w b bb c) : Calls Tryz.prog 15 #[Ptr b] w fun e w' => e = .returned (I c.total) ∧ w' = w := total_any b bb c w A.cl
/-- What the laws ask of the world they begin in. -/
structure CT (w : World) : Prop where
  tb : BD.Tabs w
  pt : PT w
  ml : ML w
theorem CT.kept {w w' : World} (h : CT w) (k : Kept [] w w') : CT w' := ⟨h.tb.kept (toBD k), h.pt.kept k, h.ml.kept k⟩
theorem At0.new {w0 w w' : World} {b : Nat} {c : Cl} (hT : CT w0) (k : Kept [] w0 w) (hb : w.heap.size ≤ b) (h : ClAt w' b b c) (ok : c.Ok) (k2 : Kept [] w w') : At0 w0 w' b b c :=
  ⟨h, ok, ⟨w0, hT.tb, hT.pt, hT.ml, k.trans' k2, by have := k.size; omega, by have := k.size; omega, h.lt⟩, k.trans' k2, by have := k.size; omega, by have := k.size; omega⟩
/-! ### fixed -/
def hL : List UInt8 := [104]
def aL : List UInt8 := [47, 97]
def r200 : List UInt8 := [72, 84, 84, 80, 47, 49, 46, 49, 32, 50, 48, 48, 32, 79, 75, 13, 10, 67, 111, 110, 116, 101, 110, 116, 45, 76, 101, 110, 103, 116, 104, 58, 32, 53, 13, 10, 13, 10, 97, 98, 99]
def r206 : List UInt8 := [72, 84, 84, 80, 47, 49, 46, 49, 32, 50, 48, 54, 32, 13, 10, 99, 111, 110, 116, 101, 110, 116, 45, 114, 97, 110, 103, 101, 58, 32, 98, 121, 116, 101, 115, 32, 51, 45, 52, 47, 53, 13, 10, 13, 10, 100, 101]
def q1 : List UInt8 := [71, 69, 84, 32, 47, 97, 32, 72, 84, 84, 80, 47, 49, 46, 49, 13, 10, 72, 111, 115, 116, 58, 32, 104, 13, 10, 67, 111, 110, 110, 101, 99, 116, 105, 111, 110, 58, 32, 99, 108, 111, 115, 101, 13, 10, 13, 10]
def K0 : Cl := newCl hL aL 0 9 5 2 3
def K1 : Cl := (outF K0).1
def K2 : Cl := (inF K1 r200).1
def K3 : Cl := lostF K2
def K4 : Cl := tickF K3 3
def K5 : Cl := (outF K4).1
def K6 : Cl := (inF K5 r206).1
def K7 : Cl := lostF K6
set_option maxRecDepth 100000 in
theorem f_ok : newOk hL aL 0 9 5 2 3 = true := by kernel_rfl
theorem f_no : newOk hL aL 0 9 5 17 3 = false := by
  unfold newOk
  exact decide_eq_false (fun h => by omega)
theorem f1 : (outF K0).2 = q1 := by kernel_rfl
theorem f2 : (inF K1 r200).2 = [97, 98, 99] := by kernel_rfl
theorem f3 : K0.state = 0 := by kernel_rfl
theorem f4 : K3.state = 2 := by kernel_rfl
theorem f5 : K4.state = 0 := by kernel_rfl
def q2 : List UInt8 := [71, 69, 84, 32, 47, 97, 32, 72, 84, 84, 80, 47, 49, 46, 49, 13, 10, 72, 111, 115, 116, 58, 32, 104, 13, 10, 82, 97, 110, 103, 101, 58, 32, 98, 121, 116, 101, 115, 61, 51, 45, 13, 10, 67, 111, 110, 110, 101, 99, 116, 105, 111, 110, 58, 32, 99, 108, 111, 115, 101, 13, 10, 13, 10]
theorem f6 : (outF K4).2 = q2 := by kernel_rfl
theorem f7 : (inF K5 r206).2 = [100, 101] := by kernel_rfl
theorem f8 : K6.state = 1 := by kernel_rfl
theorem f9 : K7.state = 3 ∧ K7.e = 0 ∧ K7.got = 5 ∧ K7.total = 5 := by
  refine ⟨?_, ?_, ?_, ?_⟩ <;> kernel_rfl
set_option maxRecDepth 100000 in
set_option maxHeartbeats 40000000 in
theorem cfixed_any (w : World) (hT : CT w) : Calls Tryz.prog 9 #[] w fun e w' => e = .returned (.bool true) ∧ Kept [] w w' := by
  have HN1 := Lib.hid (new_any hL aL 0 9 5 2 3 w hT.pt (by decide) (by decide) (by omega) (by omega))
  rw [f_ok] at HN1
  have HN2 := Lib.hid (fun W (k : Kept [] w W) => new_any hL aL 0 9 5 17 3 W (hT.pt.kept k) (by decide) (by decide) (by omega) (by omega))
  rw [f_no] at HN2
  have HT := Lib.hid hT
  clear hT
  go_enter Tryz.func9, Tryz.ntmps9
  go_wp2_with (fail)
  refine HN1.out.mono ?_
  rintro e w1 (⟨_, b, hb, rfl, hc, k1⟩ | ⟨e0, _⟩)
  case inr => cases e0
  have A := At0.new HT.out (Kept.refl [] w) hb hc (newOk_ok f_ok).1 k1
  clear hc k1 hb
  have HA := Lib.hid A
  clear A
  go_wp2_with (fail)
  refine (HN2.out _ HA.out.kp).mono ?_
  rintro e w2 (⟨e0, _⟩ | ⟨_, rfl, k2⟩)
  case inl => cases e0
  have A := HA.out.same k2
  clear HA k2 HN1 HN2
  have HA := Lib.hid A
  clear A
  go_wp2_with (fail)
  refine HA.out.state.mono ?_
  rintro e w3 ⟨rfl, A⟩
  have e3 : (newCl hL aL 0 9 5 2 3).state = 0 := f3
  rw [e3]
  clear HA e3
  have HA := Lib.hid A
  clear A
  go_wp2_with (fail)
  refine HA.out.out.mono ?_
  rintro e w4 ⟨rfl, b4, A⟩
  have e4 : (outF (newCl hL aL 0 9 5 2 3)).2 = q1 := f1
  rw [e4]
  have A1 : At0 w w4 b b4 K1 := A
  clear HA A e4
  have HA := Lib.hid A1
  clear A1
  go_wp2_with (fail)
  refine (HA.out.inn r200 (by decide)).mono ?_
  rintro e w5 ⟨rfl, b5, A⟩
  rw [f2]
  have A1 : At0 w w5 b b5 K2 := A
  clear HA A
  have HA := Lib.hid A1
  clear A1
  go_wp2_with (fail)
  refine HA.out.lost.mono ?_
  rintro e w6 ⟨rfl, b6, A⟩
  have A1 : At0 w w6 b b6 K3 := A
  clear HA A
  have HA := Lib.hid A1
  clear A1
  go_wp2_with (fail)
  refine HA.out.state.mono ?_
  rintro e w7 ⟨rfl, A⟩
  rw [f4]
  clear HA
  have HA := Lib.hid A
  clear A
  go_wp2_with (fail)
  refine (HA.out.tick 3 (by omega)).mono ?_
  rintro e w8 ⟨rfl, b8, A⟩
  have A1 : At0 w w8 b b8 K4 := A
  clear HA A
  have HA := Lib.hid A1
  clear A1
  go_wp2_with (fail)
  refine HA.out.state.mono ?_
  rintro e w9 ⟨rfl, A⟩
  rw [f5]
  clear HA
  have HA := Lib.hid A
  clear A
  go_wp2_with (fail)
  refine HA.out.out.mono ?_
  rintro e w10 ⟨rfl, b10, A⟩
  rw [f6]
  have A1 : At0 w w10 b b10 K5 := A
  clear HA A
  have HA := Lib.hid A1
  clear A1
  go_wp2_with (fail)
  refine (HA.out.inn r206 (by decide)).mono ?_
  rintro e w11 ⟨rfl, b11, A⟩
  rw [f7]
  have A1 : At0 w w11 b b11 K6 := A
  clear HA A
  have HA := Lib.hid A1
  clear A1
  go_wp2_with (fail)
  refine HA.out.state.mono ?_
  rintro e w12 ⟨rfl, A⟩
  rw [f8]
  clear HA
  have HA := Lib.hid A
  clear A
  go_wp2_with (fail)
  refine HA.out.lost.mono ?_
  rintro e w13 ⟨rfl, b13, A⟩
  have A1 : At0 w w13 b b13 K7 := A
  clear HA A
  have HA := Lib.hid A1
  clear A1
  go_wp2_with (fail)
  refine HA.out.state.mono ?_
  rintro e w14 ⟨rfl, A⟩
  rw [f9.1, f9.2.1]
  clear HA
  have HA := Lib.hid A
  clear A
  go_wp2_with (fail)
  refine (HA.out.got).mono ?_
  rintro e w15 ⟨rfl, rfl⟩
  rw [f9.2.2.1]
  go_wp2_with (fail)
  refine (HA.out.total).mono ?_
  rintro e w16 ⟨rfl, rfl⟩
  rw [f9.2.2.2]
  go_wp2_with (fail)
  go_ret
  exact ⟨rfl, HA.out.kp⟩
end CL
end
section
namespace CL
set_option maxHeartbeats 8000000
set_option maxRecDepth 100000
/-! ### What no call changes -/
def Cl.K (c : Cl) : List UInt8 × List UInt8 × Int × Int × Int × Int × Int := (c.host, c.target, c.frm, c.limit, c.tmo, c.trs, c.wt)
structure Same (c c' : Cl) : Prop where
  k : c'.K = c.K
  now : c'.now = c.now
  wk : (c'.state = 2 → c'.wake ≤ c.now + 64000) ∨ (c'.state = c.state ∧ c'.wake = c.wake)
theorem Same.refl (c : Cl) : Same c c := ⟨rfl, rfl, .inr ⟨rfl, rfl⟩⟩
theorem Same.trans {a b c : Cl} (h : Same a b) (k : Same b c) : Same a c := by
  refine ⟨k.k.trans h.k, k.now.trans h.now, ?_⟩
  have hn := h.now
  rcases k.wk with e | ⟨e1, e2⟩
  · exact .inl fun h2 => by have := e h2; omega
  · rcases h.wk with f | ⟨f1, f2⟩
    · exact .inl fun h2 => by rw [e2]; exact f (by omega)
    · exact .inr ⟨by omega, by omega⟩
theorem fails_same (c : Cl) (k : Int) : Same c (failsF c k) := ⟨rfl, rfl, .inl (by simp [failsF])⟩
theorem lose1_same (c : Cl) : (lose1 c).K = c.K ∧ (lose1 c).now = c.now := by unfold lose1; split <;> exact ⟨rfl, rfl⟩
theorem loses_same {c : Cl} (h : c.Bd) : Same c (losesF c) := by
  obtain ⟨h1, h2⟩ := lose1_same c
  have ha := h.lose1.a1
  unfold losesF lose2
  split
  · exact ⟨h1, h2, .inl (by simp [failsF])⟩
  · exact ⟨h1, h2, .inl fun _ => by show (lose1 c).now + (lose1 c).wait ≤ _; omega⟩
theorem ends_same {c : Cl} (h : c.Bd) : Same c (endsF c) := by
  have hb := h.ends1
  have h1 : (ends1 c).K = c.K ∧ (ends1 c).now = c.now ∧ (ends1 c).state = c.state ∧ (ends1 c).wake = c.wake := by unfold ends1; split <;> exact ⟨rfl, rfl, rfl, rfl⟩
  obtain ⟨h1, h2, h3, h4⟩ := h1
  have hs : Same c (ends1 c) := ⟨h1, h2, .inr ⟨h3, h4⟩⟩
  unfold endsF
  split
  · exact fails_same c _
  split
  · exact hs.trans ⟨rfl, rfl, .inl (by simp)⟩
  · exact hs.trans (loses_same hb)
theorem told_same (c : Cl) (s : List UInt8) : Same c (toldF c s).1 := by
  unfold toldF told2 told3 failsF
  split
  · exact ⟨rfl, rfl, .inl (by simp)⟩
  split
  · exact ⟨rfl, rfl, .inl (by simp)⟩
  · simp only
    split <;> exact ⟨rfl, rfl, .inr ⟨rfl, rfl⟩⟩
theorem in2_same {c : Cl} (h : c.Bd) (r : BD.Rd) (s : List UInt8) : Same c (in2 c r s).1 := by
  unfold in2
  have hb : ∀ x, ({ c with body := x } : Cl).Bd := fun x => ⟨h.f0, h.f1, h.l1, h.t0, h.t1, h.r0, h.r1, h.w0, h.w1, h.g0, h.g1, h.o0, h.o1, h.n0, h.n1, h.y0, h.y1, h.a0, h.a1, h.k0, h.k1, h.b0, h.b1, h.s0, h.s1, h.p0, h.p1, h.q0, h.q1⟩
  have hs : ∀ x, Same c { c with body := x } := fun x => ⟨rfl, rfl, .inr ⟨rfl, rfl⟩⟩
  split
  · unfold in3
    have h1 := told_same { c with body := some (BD.writeF r s).1 } (BD.writeF r s).2.1
    have h2 := (told_bd (hb (some (BD.writeF r s).1)) (BD.writeF r s).2.1).1
    split
    · exact ((hs _).trans h1).trans (ends_same h2)
    · exact (hs _).trans h1
  · exact (hs _).trans (fails_same _ _)
theorem heads3_same (c : Cl) (z : Int) : Same c (heads3 c z).1 := by
  unfold heads3
  split
  · exact Same.refl c
  split
  · exact fails_same _ _
  split
  · exact fails_same _ _
  · exact ⟨rfl, rfl, .inr ⟨rfl, rfl⟩⟩
theorem headsF_same {c : Cl} (h : c.Bd) (x : Hd) : Same c (headsF c x).1 := by
  unfold headsF
  split
  · exact loses_same h
  split
  · exact fails_same _ _
  split
  · unfold heads2
    split
    · split
      · refine Same.trans ?_ (heads3_same _ _)
        exact ⟨rfl, rfl, .inr ⟨rfl, rfl⟩⟩
      · refine Same.trans ?_ (fails_same _ _)
        exact ⟨rfl, rfl, .inr ⟨rfl, rfl⟩⟩
    · refine Same.trans ?_ (heads3_same _ _)
      exact ⟨rfl, rfl, .inr ⟨rfl, rfl⟩⟩
  · exact fails_same _ _
theorem in_same {c : Cl} (hk : c.Ok) (s : List UInt8) : Same c (inF c s).1 := by
  unfold inF
  split
  · rename_i hs
    obtain ⟨d, hd⟩ : ∃ d, (if s = [] then c else { c with last := c.now }) = d := ⟨_, rfl⟩
    have hdo : Same c d ∧ d.state = 1 ∧ d.Pre := by
      rw [← hd]
      split
      · exact ⟨Same.refl c, hs, hk.pre hs⟩
      · exact ⟨⟨rfl, rfl, .inr ⟨rfl, rfl⟩⟩, hs, ⟨⟨hk.bd.f0, hk.bd.f1, hk.bd.l1, hk.bd.t0, hk.bd.t1, hk.bd.r0, hk.bd.r1, hk.bd.w0, hk.bd.w1, hk.bd.g0, hk.bd.g1, hk.bd.o0, hk.bd.o1, hk.bd.n0, hk.bd.n1, hk.bd.y0, hk.bd.y1, hk.bd.a0, hk.bd.a1, hk.bd.k0, hk.bd.k1, hk.bd.b0, hk.bd.b1, hk.bd.n0, Int.le_refl _, hk.bd.p0, hk.bd.p1, hk.bd.q0, hk.bd.q1⟩, hk.tr (by omega), hk.ho, hk.ta, hk.bo⟩⟩
    rw [hd]
    obtain ⟨h1, h2, h3⟩ := hdo
    refine h1.trans ?_
    unfold in1
    cases hb : d.body with
    | some r => exact in2_same h3.bd r s
    | none =>
      simp only
      unfold in1n
      have hpre : ({ d with head := d.head ++ s } : Cl).Pre := ⟨⟨h3.bd.f0, h3.bd.f1, h3.bd.l1, h3.bd.t0, h3.bd.t1, h3.bd.r0, h3.bd.r1, h3.bd.w0, h3.bd.w1, h3.bd.g0, h3.bd.g1, h3.bd.o0, h3.bd.o1, h3.bd.n0, h3.bd.n1, h3.bd.y0, h3.bd.y1, h3.bd.a0, h3.bd.a1, h3.bd.k0, h3.bd.k1, h3.bd.b0, h3.bd.b1, h3.bd.s0, h3.bd.s1, h3.bd.p0, h3.bd.p1, h3.bd.q0, h3.bd.q1⟩, h3.tr, h3.ho, h3.ta, h3.bo⟩
      have hs2 : Same d { d with head := d.head ++ s } := ⟨rfl, rfl, .inr ⟨rfl, rfl⟩⟩
      cases hq : parseF (d.head ++ s) with
      | fail e =>
        simp only
        split
        · exact hs2
        · exact hs2.trans (fails_same _ _)
      | on a b => exact hs2
      | done x n =>
        simp only
        unfold in1h
        have h4 := headsF_same hpre.bd x
        have hh := headsF_ok hpre (by exact h2) x
        by_cases e : (headsF { d with head := d.head ++ s } x).2 = true
        · rw [if_pos e]
          obtain ⟨b1, b2, r, b3, _⟩ := hh.1 e
          rw [b3]
          exact (hs2.trans h4).trans (in2_same b1.bd r _)
        · rw [if_neg e]
          exact hs2.trans h4
  · exact Same.refl c
theorem lost_same {c : Cl} (hk : c.Ok) : Same c (lostF c) := by
  unfold lostF
  split
  · rename_i hs
    have h := (hk.pre hs).bd
    cases hb : c.body with
    | none => exact loses_same h
    | some r =>
      simp only
      have hb2 : ∀ x, ({ c with body := x } : Cl).Bd := fun x => ⟨h.f0, h.f1, h.l1, h.t0, h.t1, h.r0, h.r1, h.w0, h.w1, h.g0, h.g1, h.o0, h.o1, h.n0, h.n1, h.y0, h.y1, h.a0, h.a1, h.k0, h.k1, h.b0, h.b1, h.s0, h.s1, h.p0, h.p1, h.q0, h.q1⟩
      have hs : ∀ x, Same c { c with body := x } := fun x => ⟨rfl, rfl, .inr ⟨rfl, rfl⟩⟩
      split
      · exact (hs _).trans (ends_same (hb2 _))
      · exact (hs _).trans (loses_same (hb2 _))
  · exact Same.refl c
theorem run_ok_same (f : Nat) : ∀ (c : Cl) (p : Nat) (s : List UInt8), c.Ok → (runP f c p s).1.Ok ∧ Same c (runP f c p s).1 := by
  induction f with
  | zero => intro c p s h; exact ⟨h, Same.refl c⟩
  | succ f ih =>
    intro c p s h
    unfold runP
    split
    · exact ⟨h, Same.refl c⟩
    · obtain ⟨a, b⟩ := ih (inF c (s.take p)).1 p (s.drop p) (h.inn _)
      exact ⟨a, (in_same h _).trans b⟩
theorem run_idle (f : Nat) : ∀ (c : Cl) (p : Nat) (s : List UInt8), c.state ≠ 1 → runP f c p s = (c, []) := by
  induction f with
  | zero => intro c p s h; rfl
  | succ f ih =>
    intro c p s h
    unfold runP
    split
    · rfl
    · have e : inF c (s.take p) = (c, []) := by unfold inF; rw [if_neg h]
      rw [e]
      simp only
      rw [ih c p _ h]; rfl
/-! ### A connection, whole: pure -/
def Cl.W (c : Cl) : Prop := c.state = 2 → c.wake ≤ c.now + 64000
theorem Same.w {c c' : Cl} (h : Same c c') (k : c.W) : c'.W := by
  intro h2
  have hn := h.now
  rcases h.wk with e | ⟨e1, e2⟩
  · have := e h2; omega
  · have := k (by omega); omega
theorem out_same (c : Cl) : Same c (outF c).1 := by
  unfold outF
  split
  · exact ⟨rfl, rfl, .inl (by simp)⟩
  · exact Same.refl c
theorem tick_cases (c : Cl) (n : Int) (h0 : 0 ≤ n) (h1 : c.now + n ≤ 1099511627776) (hc : 0 ≤ c.now) :
    (tickF c n = { c with now := c.now + n } ∧ ¬ (1 ≤ n ∧ c.state = 2 ∧ c.wake ≤ c.now + n)) ∨ (c.state = 2 ∧ tickF c n = { c with now := c.now + n, state := 0 }) ∨ (c.state = 1 ∧ tickF c n = losesF { c with now := c.now + n }) := by
  by_cases hn : n < 1
  · left
    have : n = 0 := by omega
    subst this
    unfold tickF
    rw [if_pos hn, Int.add_zero]
    exact ⟨rfl, by omega⟩
  have e : tickF c n = tick2 { c with now := c.now + n } := by
    unfold tickF tick1
    rw [if_neg hn]
    congr 2
    omega
  rw [e]
  unfold tick2
  simp only
  by_cases a : c.state = 2 ∧ c.wake ≤ c.now + n
  · rw [if_pos a]; exact .inr (.inl ⟨a.1, rfl⟩)
  · rw [if_neg a]
    by_cases b : c.state = 1 ∧ c.tmo ≤ c.now + n - c.last
    · rw [if_pos b]; exact .inr (.inr ⟨b.1, rfl⟩)
    · rw [if_neg b]; exact .inl ⟨rfl, fun h => a h.2⟩
theorem now_bd {c : Cl} (h : c.Bd) {n : Int} (h0 : 0 ≤ n) (h1 : c.now + n ≤ 1099511627776) : ({ c with now := c.now + n } : Cl).Bd := by
  obtain ⟨f0, f1, l1, t0, t1, r0, r1, w0, w1, g0, g1, o0, o1, n0, n1, y0, y1, a0, a1, k0, k1, b0, b1, s0, s1, p0, p1, q0, q1⟩ := h
  constructor <;> first | assumption | (simp only; omega)
theorem tick_keep {c : Cl} (h : c.Ok) (n : Int) (h0 : 0 ≤ n) (h1 : c.now + n ≤ 1099511627776) (hw : c.W) :
    (tickF c n).Ok ∧ (tickF c n).K = c.K ∧ (tickF c n).now = c.now + n ∧ (tickF c n).W ∧ (tickF c n).got = c.got ∧ (tickF c n).total = c.total := by
  refine ⟨h.tick n, ?_⟩
  rcases tick_cases c n h0 h1 h.bd.n0 with ⟨e, _⟩ | ⟨_, e⟩ | ⟨_, e⟩ <;> rw [e]
  · exact ⟨rfl, rfl, fun h2 => by have := hw h2; show c.wake ≤ c.now + n + 64000; omega, rfl, rfl⟩
  · exact ⟨rfl, rfl, fun h2 => (by cases h2), rfl, rfl⟩
  · have hs := loses_same (now_bd h.bd h0 h1)
    obtain ⟨g1, _⟩ := lose1_ev { c with now := c.now + n }
    have g2 : (lose1 { c with now := c.now + n }).total = c.total := by unfold lose1; split <;> rfl
    refine ⟨hs.k, hs.now, ?_, ?_, ?_⟩
    · intro h2
      rcases hs.wk with f | ⟨f, _⟩
      · have := f h2
        have hn := hs.now
        omega
      · exfalso
        have : c.state = 1 := by assumption
        have f2 : (losesF { c with now := c.now + n }).state = c.state := f
        omega
    · unfold losesF lose2; split <;> exact g1
    · unfold losesF lose2; split <;> exact g2
/-- What giving a connection up leaves. -/
theorem loses_st (c : Cl) : (losesF c).got = c.got ∧ (losesF c).total = c.total ∧ ((losesF c).state = 2 ∨ ((losesF c).state = 4 ∧ (losesF c).e = 194)) := by
  obtain ⟨g1, _⟩ := lose1_ev c
  have g2 : (lose1 c).total = c.total := by unfold lose1; split <;> rfl
  unfold losesF lose2
  split
  · exact ⟨g1, g2, .inr ⟨rfl, rfl⟩⟩
  · exact ⟨g1, g2, .inl rfl⟩
def playC (c : Cl) (s : List UInt8) (p : Nat) (a b : Int) : Cl × List UInt8 :=
  (lostF (tickF (runP s.length (tickF (outF c).1 a) p s).1 b), (runP s.length (tickF (outF c).1 a) p s).2)
theorem play_keep {c : Cl} (h : c.Ok) (hw : c.W) (s : List UInt8) (p : Nat) (a b m : Int) (ha : 0 ≤ a ∧ a ≤ 2000) (hb : 0 ≤ b ∧ b ≤ 2000) (hm : c.now ≤ m) (hm2 : m + 4000 ≤ 1099511627776) :
    (playC c s p a b).1.Ok ∧ (playC c s p a b).1.K = c.K ∧ (playC c s p a b).1.now ≤ m + 4000 ∧ (playC c s p a b).1.W := by
  obtain ⟨a0, a1⟩ := ha
  obtain ⟨b0, b1⟩ := hb
  have s1 := out_same c
  have hn1 := s1.now
  obtain ⟨o2, k2, n2, w2, _, _⟩ := tick_keep h.out a a0 (by omega) (s1.w hw)
  obtain ⟨o3, s3⟩ := run_ok_same s.length _ p s o2
  have hn3 := s3.now
  obtain ⟨o4, k4, n4, w4, _, _⟩ := tick_keep o3 b b0 (by omega) (s3.w w2)
  have s5 := lost_same o4
  have hn5 := s5.now
  exact ⟨o4.lost, s5.k.trans (k4.trans (s3.k.trans (k2.trans s1.k))), by show (lostF _).now ≤ _; omega, s5.w w4⟩
def SiteSt (A : List UInt8) (lim : Int) (c : Cl) : Prop := c.state = 0 ∨ c.state = 2 ∨ (c.state = 3 ∧ c.got = A.length) ∨ (c.state = 4 ∧ (c.e = 194 ∨ (c.e = 193 ∧ lim < A.length)))
/-- The time behind, and the connection's end, where it is over. -/
theorem over_end {A : List UInt8} {c : Cl} (h : c.Ok) (b : Int) (h0 : 0 ≤ b) (h1 : c.now + b ≤ 1099511627776) (hs : c.state ≠ 1) (hst : SiteSt A c.limit c) :
    (lostF (tickF c b)).got = c.got ∧ (lostF (tickF c b)).total = c.total ∧ SiteSt A c.limit (lostF (tickF c b)) ∧ (c.state = 3 → (lostF (tickF c b)).state = 3) := by
  rcases tick_cases c b h0 h1 h.bd.n0 with ⟨e, _⟩ | ⟨h2, e⟩ | ⟨h2, _⟩
  · rw [e]
    unfold lostF
    rw [if_neg (by exact hs)]
    exact ⟨rfl, rfl, hst, fun h => h⟩
  · rw [e]
    unfold lostF
    rw [if_neg (by simp)]
    exact ⟨rfl, rfl, .inl rfl, fun h => by omega⟩
  · exact absurd h2 hs
theorem loses_site {A : List UInt8} {lim : Int} (c : Cl) : SiteSt A lim (losesF c) := by
  rcases (loses_st c).2.2 with h | ⟨h, h'⟩
  · exact .inr (.inl h)
  · exact .inr (.inr (.inr ⟨h, .inl h'⟩))
theorem K_lim {c c' : Cl} (h : c'.K = c.K) : c'.limit = c.limit ∧ c'.frm = c.frm ∧ c'.tmo = c.tmo ∧ c'.trs = c.trs ∧ c'.wt = c.wt ∧ c'.host = c.host ∧ c'.target = c.target := by
  unfold Cl.K at h
  simp only [Prod.mk.injEq] at h
  obtain ⟨h1, h2, h3, h4, h5, h6, h7⟩ := h
  exact ⟨h4, h3, h5, h6, h7, h1, h2⟩
set_option maxHeartbeats 1000000 in
/-- Where the connection ended, from what was told of its response. -/
theorem at_end {A : List UInt8} {g : Nat} {H B : List UInt8} {x : Hd} {R0 : BD.Rd} {D : List UInt8} {sk : Nat} {lf : Int} (S : Srv A g H B x R0 D sk lf) {bz : Bool} {q told : List UInt8} {c : Cl} (h : AtP A g H B R0 sk lf bz q told c)
    (hk : c.Ok) (b : Int) (h0 : 0 ≤ b) (h1 : c.now + b ≤ 1099511627776) (hop : R0.state = 1 → q = H ++ B) :
    (lostF (tickF c b)).got = (g : Int) + told.length ∧ ((lostF (tickF c b)).total = -1 ∨ (lostF (tickF c b)).total = A.length) ∧ SiteSt A c.limit (lostF (tickF c b)) := by
  obtain ⟨a1, a2, a3, h⟩ := h
  by_cases hs : c.state = 1
  · rcases tick_cases c b h0 h1 hk.bd.n0 with ⟨e, _⟩ | ⟨h2, _⟩ | ⟨_, e⟩
    · rw [e]
      unfold lostF
      rw [if_pos (by exact hs)]
      rcases h with ⟨b1, b2, b8, b9, b3, b4, b5, b6, b7⟩ | ⟨hbg, k, r, o, b1, b2, b3, b4⟩ | b
      · simp only [b3]
        obtain ⟨l1, l2, l3⟩ := loses_st { c with now := c.now + b, body := none }
        exact ⟨l1.trans a1, by rw [l2]; exact b7, loses_site _⟩
      · simp only [b3]
        have hre : r.e = 0 := by rw [(BD.feeds_e b2.fd).1]; exact S.e0
        by_cases hr1 : r.state = 1
        · have hcl : BD.closeF r = ({ r with state := 11 }, 0) := by unfold BD.closeF; rw [if_neg (by simp [hre, b4]), if_pos hr1]
          rw [hcl]
          simp only [if_true]
          have hR1 : R0.state = 1 := by
            apply Decidable.byContradiction
            intro hne
            have := BD.feeds_ne1 (B.take k) R0 hne
            rw [b2.fd] at this
            exact this hr1
          have hq := hop hR1
          rw [b1] at hq
          have hBk := List.append_cancel_left hq
          obtain ⟨rE, hE⟩ := S.fd
          have hfd := b2.fd
          rw [hBk, hE] at hfd
          have hoD : D = o := (Prod.mk.inj (Prod.mk.inj hfd).2).1
          have hdl := S.dl
          have htl := b2.tl
          rw [← hoD, S.dd] at htl
          have hgl : (g : Int) + told.length = A.length := by rw [htl]; simp; have := S.ga; omega
          have hsk := b2.skp
          rw [← hoD, hdl] at hsk
          have hsk0 : c.skip = 0 := by omega
          have hgot : c.got = A.length := by rw [a1, hgl]
          have htt := b2.tt
          unfold endsF
          rw [if_neg (show ¬ 0 < c.skip by omega)]
          have he : (ends1 { c with body := some { r with state := 11 }, now := c.now + b }).got = c.got ∧ (ends1 { c with body := some { r with state := 11 }, now := c.now + b }).total = A.length := by
            unfold ends1
            split
            · exact ⟨rfl, hgot⟩
            · rename_i hneg
              refine ⟨rfl, ?_⟩
              have hneg' : ¬ c.total < 0 := hneg
              show c.total = _
              omega
          rw [if_pos (by rw [he.1, he.2]; exact hgot)]
          refine ⟨by show (ends1 _).got = _; rw [he.1, a1], .inr he.2, .inr (.inr (.inl ⟨rfl, by show (ends1 _).got = _; rw [he.1, hgot]⟩))⟩
        · have hcl : BD.closeF r = ({ r with e := 182 }, 182) := by unfold BD.closeF; rw [if_neg (by simp [hre, b4]), if_neg hr1]
          rw [hcl]
          rw [if_neg (by simp)]
          obtain ⟨l1, l2, l3⟩ := loses_st { c with body := some { r with e := 182 }, now := c.now + b }
          exact ⟨l1.trans a1, by rw [l2]; exact b2.tt, loses_site _⟩
      · exfalso
        rcases b with ⟨h, _⟩ | ⟨h, _⟩ | ⟨_, h | ⟨h, _⟩, _⟩ <;> omega
    · omega
    · obtain ⟨l1, l2, l3⟩ := loses_st { c with now := c.now + b }
      rw [e]
      unfold lostF
      rw [if_neg (by rcases l3 with h | ⟨h, _⟩ <;> omega)]
      refine ⟨l1.trans a1, ?_, loses_site _⟩
      rw [l2]
      rcases h with ⟨b1, b2, b8, b9, b3, b4, b5, b6, b7⟩ | ⟨hbg, k, r, o, b1, b2, b3, b4⟩ | b
      · exact b7
      · exact b2.tt
      · exfalso
        rcases b with ⟨h, _⟩ | ⟨h, _⟩ | ⟨_, h | ⟨h, _⟩, _⟩ <;> omega
  · have hov : Over A bz c := by
      rcases h with ⟨b1, _⟩ | ⟨_, k, r, o, _, b2, _⟩ | b
      · exact absurd b1 hs
      · exact absurd b2.st hs
      · exact b
    have hst : SiteSt A c.limit c ∧ (c.total = -1 ∨ c.total = A.length) := by
      rcases hov with ⟨b1, b2, b3⟩ | ⟨b1, b2, b3, b4⟩ | ⟨_, b1 | ⟨b1, b2⟩, b3⟩
      · exact ⟨.inr (.inr (.inl ⟨b1, b2⟩)), .inr b3⟩
      · exact ⟨.inr (.inr (.inr ⟨b1, .inr ⟨b2, b3⟩⟩)), b4⟩
      · exact ⟨.inr (.inl b1), b3⟩
      · exact ⟨.inr (.inr (.inr ⟨b1, .inl b2⟩)), b3⟩
    obtain ⟨e1, e2, e3, _⟩ := over_end hk b h0 h1 hs hst.1
    exact ⟨e1.trans a1, by rw [e2]; exact hst.2, e3⟩
set_option maxHeartbeats 1000000 in
theorem play_st {A : List UInt8} {g : Nat} {H B : List UInt8} {x : Hd} {R0 : BD.Rd} {D : List UInt8} {sk : Nat} {lf : Int} (S : Srv A g H B x R0 D sk lf) {bz : Bool} (hh : HeadsAs A g x R0 sk lf bz) (hH : 0 < H.length)
    {c : Cl} (hk : c.Ok) (hw : c.W) (hs : c.state = 0) (hg : c.got = g) (ht : c.total = -1 ∨ c.total = A.length) (s : List UInt8) (hpre : s <+: H ++ B) (p : Nat) (hp : 1 ≤ p) (a b : Int) (ha : 0 ≤ a ∧ a ≤ 2000) (hb : 0 ≤ b ∧ b ≤ 2000) (hn : c.now + 4000 ≤ 1099511627776)
    (hop : R0.state = 1 → s = H ++ B) :
    ∃ told, (playC c s p a b).2 = told ∧ told = (A.drop g).take told.length ∧ g + told.length ≤ A.length ∧ (playC c s p a b).1.got = (g : Int) + told.length ∧
      ((playC c s p a b).1.total = -1 ∨ (playC c s p a b).1.total = A.length) ∧ SiteSt A c.limit (playC c s p a b).1 := by
  refine ⟨_, rfl, ?_⟩
  obtain ⟨a0, a1⟩ := ha
  obtain ⟨b0, b1⟩ := hb
  have s1 := out_same c
  have hn1 := s1.now
  obtain ⟨o2, k2, n2, w2, g2, t2⟩ := tick_keep hk.out a a0 (by omega) (s1.w hw)
  have e1 : (outF c).1 = { c with state := 1, began := c.got, last := c.now, head := [], body := none, skip := 0, left := -1 } := by unfold outF; rw [if_pos hs]
  have hlim : (tickF (outF c).1 a).limit = c.limit := (K_lim (k2.trans s1.k)).1
  have hgc : (outF c).1.got = g ∧ (outF c).1.total = c.total := by rw [e1]; exact ⟨hg, rfl⟩
  rw [hgc.1] at g2
  rw [hgc.2] at t2
  have hcases := tick_cases (outF c).1 a a0 (by omega) hk.out.bd.n0
  obtain ⟨c2, hc2⟩ : ∃ c2, tickF (outF c).1 a = c2 := ⟨_, rfl⟩
  have ho1 : (outF c).1.state = 1 := by rw [e1]
  unfold playC
  rw [hc2] at o2 n2 w2 g2 t2 hlim hcases ⊢
  rcases hcases with ⟨e, _⟩ | ⟨h2, _⟩ | ⟨_, e⟩
  · have hat : AtP A g H B R0 sk lf bz [] [] c2 := by
      rw [e, e1]
      exact ⟨by simpa using hg, by simp, by simpa using S.ga, .inl ⟨rfl, hg, rfl, rfl, rfl, rfl, hH, rfl, ht⟩⟩
    have hr := at_run S hh p hp s.length c2 [] [] s (Nat.le_refl _) (by simpa using hpre) hat
    rw [List.nil_append, List.nil_append] at hr
    obtain ⟨o3, s3⟩ := run_ok_same s.length c2 p s o2
    have hn3 := s3.now
    have hl3 := (K_lim s3.k).1
    have he := at_end S hr o3 b b0 (by omega) hop
    obtain ⟨y1, y2, y3, _⟩ := hr
    rw [hl3, hlim] at he
    exact ⟨y2, y3, he⟩
  · omega
  · obtain ⟨l1, l2, l3⟩ := loses_st { (outF c).1 with now := (outF c).1.now + a }
    rw [← e] at l1 l2 l3
    have hne : c2.state ≠ 1 := by rcases l3 with h | ⟨h, _⟩ <;> omega
    rw [run_idle s.length c2 p _ hne]
    have hst : SiteSt A c2.limit c2 := by rw [e]; exact loses_site _
    obtain ⟨f1, f2, f3, _⟩ := over_end o2 b b0 (by omega) hne hst
    rw [hlim] at f3
    refine ⟨by simp, by simpa using S.ga, ?_, ?_, f3⟩
    · rw [f1, g2]; simp
    · rw [f2, t2]; exact ht
/-! ### ClientWhole: what holds between connections -/
structure Site (A : List UInt8) (F : Cl) (told : List UInt8) (m : Int) (c : Cl) : Prop where
  ok : c.Ok
  k : c.K = F.K
  got : c.got = F.frm + told.length
  tl : told = (A.drop F.frm.toNat).take told.length
  le : F.frm.toNat + told.length ≤ A.length
  tot : c.total = -1 ∨ c.total = A.length
  now : c.now ≤ m
  w : c.W
  st : SiteSt A F.limit c
theorem take_more {A t t' : List UInt8} {f : Nat} (h : t = (A.drop f).take t.length) (h' : t' = (A.drop (f + t.length)).take t'.length) : t ++ t' = (A.drop f).take (t ++ t').length := by
  rw [List.length_append, List.take_add, ← h, List.drop_drop, ← h']
theorem Site.play {A : List UInt8} {g : Nat} {H B : List UInt8} {x : Hd} {R0 : BD.Rd} {D : List UInt8} {sk : Nat} {lf : Int} (S : Srv A g H B x R0 D sk lf) {bz : Bool} (hh : HeadsAs A g x R0 sk lf bz) (hH : 0 < H.length)
    {F c : Cl} {told : List UInt8} {m : Int} (h : Site A F told m c) (hs : c.state = 0) (hg : c.got = g) (s : List UInt8) (hpre : s <+: H ++ B) (p : Nat) (hp : 1 ≤ p) (a b : Int) (ha : 0 ≤ a ∧ a ≤ 2000) (hb : 0 ≤ b ∧ b ≤ 2000) (hn : m + 4000 ≤ 1099511627776)
    (hop : R0.state = 1 → s = H ++ B) : Site A F (told ++ (playC c s p a b).2) (m + 4000) (playC c s p a b).1 := by
  have hnow := h.now
  obtain ⟨k1, k2, k3, k4⟩ := play_keep h.ok h.w s p a b m ha hb hnow hn
  obtain ⟨t, ht, p1, p2, p3, p4, p5⟩ := play_st S hh hH h.ok h.w hs hg h.tot s hpre p hp a b ha hb (by omega) hop
  have hl := (K_lim h.k).1
  have hf := (K_lim h.k).2.1
  have hf0 := h.ok.bd.f0
  have hgot := h.got
  have hfg : F.frm.toNat + told.length = g := by omega
  rw [ht]
  refine ⟨k1, k2.trans h.k, ?_, ?_, ?_, p4, k3, k4, by rw [← hl]; exact p5⟩
  · rw [p3, List.length_append]; omega
  · exact take_more h.tl (by rw [hfg]; exact p1)
  · rw [List.length_append]; omega
theorem Site.wait {A : List UInt8} {F c : Cl} {told : List UInt8} {m : Int} (h : Site A F told m c) (hs : c.state = 2) (hm : m + 64000 ≤ 1099511627776) : (tickF c 64000).state = 0 ∧ Site A F told (m + 64000) (tickF c 64000) := by
  have hnow := h.now
  obtain ⟨k1, k2, k3, k4, k5, k6⟩ := tick_keep h.ok 64000 (by omega) (by omega) h.w
  have hw := h.w hs
  rcases tick_cases c 64000 (by omega) (by omega) h.ok.bd.n0 with ⟨_, e⟩ | ⟨_, e⟩ | ⟨e, _⟩
  · exact absurd ⟨by omega, hs, hw⟩ e
  · have h0 : (tickF c 64000).state = 0 := by rw [e]
    exact ⟨h0, ⟨k1, k2.trans h.k, k5.trans h.got, h.tl, h.le, by rw [k6]; exact h.tot, by omega, k4, .inl h0⟩⟩
  · omega
theorem Site.mono {A : List UInt8} {F c : Cl} {told : List UInt8} {m m' : Int} (h : Site A F told m c) (hm : m ≤ m') : Site A F told m' c :=
  ⟨h.ok, h.k, h.got, h.tl, h.le, h.tot, Int.le_trans h.now hm, h.w, h.st⟩
theorem site_new {ho ta A : List UInt8} {fr li tm tr wt : Int} (h : newOk ho ta fr li tm tr wt = true) (hl : fr ≤ A.length) : Site A (newCl ho ta fr li tm tr wt) [] 0 (newCl ho ta fr li tm tr wt) := by
  obtain ⟨k, _⟩ := newOk_ok h
  exact ⟨k, rfl, by simp [newCl], by simp, by have := k.bd.f0; simp [newCl] at this ⊢; omega, .inl rfl, by simp [newCl], (by intro h; cases h), .inl rfl⟩
/-- The response of a server, of each kind. -/
theorem Site.served {A : List UInt8} (hA : A.length ≤ 2000) {F c : Cl} {told : List UInt8} {m : Int} (h : Site A F told m c) (hs : c.state = 0) (kind : Int) (g : Nat) (hg : c.got = g) (s : List UInt8) (hpre : s <+: respF kind A g) (p : Nat) (hp : 1 ≤ p) (a b : Int) (ha : 0 ≤ a ∧ a ≤ 2000) (hb : 0 ≤ b ∧ b ≤ 2000) (hn : m + 4000 ≤ 1099511627776)
    (hop : kind = 3 → s = respF kind A g) : Site A F (told ++ (playC c s p a b).2) (m + 4000) (playC c s p a b).1 := by
  have hga : g ≤ A.length := by have := h.le; have := h.got; have := h.ok.bd.f0; have := (K_lim h.k).2.1; omega
  unfold respF at hop hpre
  by_cases h1 : kind = 1 ∧ g < A.length
  · rw [if_pos h1] at hpre
    exact h.play (srv_part A g hA h1.2) (as_206 hA h1.2) (by simp [partH, l206]) hs hg s hpre p hp a b ha hb hn (fun e => by unfold rdSz at e; simp only at e; split at e <;> cases e)
  rw [if_neg h1] at hop hpre
  by_cases h2 : kind = 2
  · rw [if_pos h2] at hpre
    exact h.play (srv_chunk A g hA hga) (as_200 newF_chunk (.inl rfl) hga) (by decide) hs hg s hpre p hp a b ha hb hn (fun e => by cases e)
  rw [if_neg h2] at hop hpre
  by_cases h3 : kind = 3
  · rw [if_pos h3] at hop hpre
    exact h.play (srv_open A g hA hga) (as_200 newF_open (.inl rfl) hga) (by decide) hs hg s hpre p hp a b ha hb hn (fun _ => hop h3)
  rw [if_neg h3] at hpre
  by_cases h4 : kind = 4
  · rw [if_pos h4] at hpre
    exact h.play (srv_busy A g hA hga) as_503 (by decide) hs hg s (hpre.trans ⟨_, rfl⟩) p hp a b ha hb hn (fun e => by unfold rdSz at e; simp only at e; split at e <;> cases e)
  · rw [if_neg h4] at hpre
    exact h.play (srv_whole A g hA hga) (as_200 (newF_whole A.length (by omega)) (.inr rfl) hga) (by simp [wholeH, l200]) hs hg s hpre p hp a b ha hb hn (fun e => by unfold rdSz at e; simp only at e; split at e <;> cases e)
end CL
end
section
namespace CL
set_option maxHeartbeats 8000000
set_option maxRecDepth 100000
/-! ### ClientTries -/
abbrev FeT : TypeId := 23
abbrev FeV (ho ta : List UInt8) (fr li tm tr wt : Int) : Array Value := #[S ho, S ta, I fr, I li, I tm, I tr, I wt]
structure FeAt (W : World) (g : Nat) (ho ta : List UInt8) (fr li tm tr wt : Int) : Prop where
  blk : W.heap[g]? = some (.cells (FeV ho ta fr li tm tr wt) FeT (0, 0))
theorem FeAt.kept {W W' : World} {g : Nat} {ho ta : List UInt8} {fr li tm tr wt : Int} (h : FeAt W g ho ta fr li tm tr wt) (k : Kept [] W W') : FeAt W' g ho ta fr li tm tr wt := ⟨k.at h.blk (by simp)⟩
theorem FeAt.cells {W : World} {g : Nat} {ho ta : List UInt8} {fr li tm tr wt : Int} (h : FeAt W g ho ta fr li tm tr wt) :
    W.cell? ⟨g, 2, none⟩ = some (I fr) ∧ W.cell? ⟨g, 3, none⟩ = some (I li) ∧ W.cell? ⟨g, 4, none⟩ = some (I tm) ∧ W.cell? ⟨g, 5, none⟩ = some (I tr) := by
  refine ⟨?_, ?_, ?_, ?_⟩ <;> (rw [cell_at h.blk]; rfl)
theorem FeAt.all {W : World} {g : Nat} {ho ta : List UInt8} {fr li tm tr wt : Int} (h : FeAt W g ho ta fr li tm tr wt) :
    W.cell? ⟨g, 0, none⟩ = some (S ho) ∧ W.cell? ⟨g, 1, none⟩ = some (S ta) ∧ W.cell? ⟨g, 2, none⟩ = some (I fr) ∧ W.cell? ⟨g, 3, none⟩ = some (I li) ∧ W.cell? ⟨g, 4, none⟩ = some (I tm) ∧ W.cell? ⟨g, 5, none⟩ = some (I tr) ∧ W.cell? ⟨g, 6, none⟩ = some (I wt) := by
  refine ⟨?_, ?_, ?_, ?_, ?_, ?_, ?_⟩ <;> (rw [cell_at h.blk]; rfl)
theorem fe_new (w : World) (ho ta : List UInt8) (fr li tm tr wt : Int) : FeAt (w.alloc (.cells (FeV ho ta fr li tm tr wt) FeT)) w.heap.size ho ta fr li tm tr wt := ⟨heap_new w _⟩
def LawT (w : World) (e : Ending) (w' : World) : Prop := e = .returned (.bool true) ∧ Kept [] w w'
theorem newTry {ho ta : List UInt8} {fr li tm tr wt : Int} (h : newOk ho ta fr li tm tr wt = true) : AtTry (newCl ho ta fr li tm tr wt) (newCl ho ta fr li tm tr wt) 0 :=
  ⟨(newOk_ok h).1, rfl, rfl, rfl, rfl, rfl, rfl, rfl, by simp [newCl], by simp [newCl], rfl⟩
theorem newBd {ho ta : List UInt8} {fr li tm tr wt : Int} (h : newOk ho ta fr li tm tr wt = true) : 0 ≤ fr ∧ fr ≤ li ∧ li ≤ 1048576 ∧ 1 ≤ tm ∧ tm ≤ 1000 ∧ 1 ≤ wt ∧ wt ≤ 1000 ∧ 1 ≤ tr ∧ tr ≤ 16 := by
  unfold newOk at h
  obtain ⟨h1, h2, h3, h4, h5, h6, h7, h8, h9⟩ := of_decide_eq_true h
  exact ⟨(req_ok h1).2, h2, h3, h4, h5, h6, h7, h8, h9⟩
theorem Kept.cellOf {w w' : World} (k : Kept [] w w') {p : Addr} {v : Value} (h : w.cell? p = some v) : w'.cell? p = some v := (k.cell (World.block_lt_of_cell? w _ h) (by simp)).trans h
abbrev TS (base : World) (g : Nat) (fr : Int) (b bb : Nat) (c : Cl) (w' : World) : Prop := w'.cell? ⟨g, 2, none⟩ = some (I fr) ∧ At0 base w' b bb c
theorem TS.step {base w1 w2 : World} {g : Nat} {fr : Int} {b bb : Nat} {c : Cl} (h : TS base g fr b bb c w1) (k : Kept [] w1 w2) : TS base g fr b bb c w2 := ⟨Kept.cellOf k h.1, h.2.same k⟩
set_option maxRecDepth 100000 in
set_option maxHeartbeats 40000000 in
theorem tries_any (ho ta : List UInt8) (fr li tm tr wt : Int) (lose : Bool) (w : World) (hT : CT w) (h1 : ho.length ≤ 9223372036854775807) (h2 : ta.length ≤ 9223372036854775807) (hf1 : -9223372036854775808 ≤ fr) (hf2 : fr ≤ 9223372036854775807) :
    Calls Tryz.prog 6 #[.agg (FeV ho ta fr li tm tr wt), .bool lose] w (LawT w) := by
  have HN := Lib.hid (fun W (k : Kept [] w W) => new_any ho ta fr li tm tr wt W (hT.pt.kept k) h1 h2 hf1 hf2)
  have hA : Kept [] w (w.alloc (.cells (FeV ho ta fr li tm tr wt) FeT)) := (Kept.refl _ _).alloc _
  have HT := Lib.hid (hT.kept hA)
  have HA := Lib.hid hA
  have hfe := fe_new w ho ta fr li tm tr wt
  obtain ⟨z0, z1, z2, z3, z4, z5, z6⟩ := hfe.all
  have HF := Lib.hid hfe
  clear hT hA h1 h2 hf1 hf2 hfe
  go_enter Tryz.func6, Tryz.ntmps6
  go_wp2_with (fail)
  refine (HN.out _ HA.out).mono ?_
  clear z0 z1 z2 z3 z4 z5 z6
  rintro e w1 (⟨hok, b, hb, rfl, hc, k1⟩ | ⟨_, rfl, k1⟩)
  case inr =>
    have K1 := Lib.hid k1
    clear k1
    go_wp2_with (fail)
    refine (cfixed_any _ (HT.out.kept K1.out)).mono ?_
    rintro e w2 ⟨rfl, k2⟩
    go_wp2_with (fail)
    go_ret
    exact ⟨rfl, (HA.out.trans' K1.out).trans' k2⟩
  obtain ⟨n1, n2, n3, n4, n5, n6, n7, n8, n9⟩ := newBd hok
  obtain ⟨F, hF⟩ : ∃ F, newCl ho ta fr li tm tr wt = F := ⟨_, rfl⟩
  have hFf : F.tmo = tm ∧ F.trs = tr ∧ F.frm = fr ∧ okA F.host F.target = true := by rw [← hF]; exact ⟨rfl, rfl, rfl, (newOk_ok hok).2⟩
  have A := At0.new HT.out (Kept.refl [] _) hb hc (newOk_ok hok).1 k1
  have hty := newTry hok
  rw [hF] at A hty
  have H0 := Lib.hid (And.intro A hty)
  have HFF := Lib.hid hFf
  clear A hty hFf hc k1 hb hok hF HN
  go_wp2_with (fail)
  go_loopw [7] (fun i wr => ∃ (k : Nat) (bb : Nat) (c : Cl), i = I k ∧ (k : Int) ≤ tr ∧ At0 (w.alloc (.cells (FeV ho ta fr li tm tr wt) FeT)) wr b bb c ∧ ((k : Int) < tr → AtTry F c k) ∧ ((k : Int) = tr → c.state = 4 ∧ c.e = 194 ∧ c.got = fr)) (fun i _ => tr.toNat - (intOf i).toNat)
  case atStart => exact ⟨0, b, F, rfl, by omega, H0.out.1, fun _ => H0.out.2, fun h => by omega⟩
  case round =>
    obtain ⟨k, bb, c, rfl, hk, A, h1, h2⟩ := hrel
    obtain ⟨z2, z3, z4, z5⟩ := (HF.out.kept A.kp).cells
    by_cases hlt : (k : Int) < tr
    · have hty := h1 hlt
      clear h1 h2
      have hdec : (k : Int) < tr - 1 ∨ (¬ (k : Int) < tr - 1 ∧ (k : Int) = tr - 1) := by omega
      obtain ⟨e1, e2⟩ := hty.out HFF.out.2.2.2
      have e3 := hty.lost
      obtain ⟨m, e4, e5⟩ := hty.tick (by omega) (by rw [HFF.out.2.1]; exact hlt)
      rw [HFF.out.1] at e4
      have hb := hty.ok.bd
      have e6 := hty.next (n := c.now) (by omega) (by rw [HFF.out.2.1]; exact hlt) (Int.le_refl _) (by omega)
      have e7 := hty.next (n := c.now + c.tmo) (by omega) (by rw [HFF.out.2.1]; exact hlt) (by have := hb.t0; omega) (by have := hb.t1; omega)
      rw [HFF.out.2.1, HFF.out.2.2.1] at e6 e7
      obtain ⟨d, o, hdo⟩ : ∃ d o, outF c = (d, o) := ⟨_, _, rfl⟩
      rw [hdo] at e1 e2 e3 e4
      have hoe : (o == []) = false := by simpa using e2
      have hoe2 : o.isEmpty = false := by simpa using e2
      have HO := Lib.hid A.out
      rw [hdo] at HO
      have HE := Lib.hid (And.intro e1 (And.intro e3 (And.intro e4 (And.intro e5 (And.intro e6 e7)))))
      clear e1 e2 e3 e4 e5 e6 e7 hdo hb A hty
      go_wp2_with (fail)
      refine HO.out.mono ?_
      rintro r w2 ⟨rfl, b2, A⟩
      have z := (HF.out.kept A.kp).cells
      clear z2 z3 z4 z5 HO
      obtain ⟨z2, z3, z4, z5⟩ := z
      have HA2 := Lib.hid A
      clear A
      cases lose with
      | true =>
        go_wp2_with (fail)
        refine HA2.out.lost.mono ?_
        rintro r w3 ⟨rfl, b3, A⟩
        rw [HE.out.2.1] at A
        clear z2 z3 z4 z5
        have HA3 := Lib.hid A
        clear A HA2
        obtain ⟨y1, y2, _⟩ := HE.out.2.2.2.2.1
        go_wp2_with (fail)
        refine HA3.out.state.mono ?_
        rintro r w4 ⟨rfl, A⟩
        obtain ⟨z2, z3, z4, z5⟩ := (HF.out.kept A.kp).cells
        have HA4 := Lib.hid A
        clear A HA3
        rcases hdec with hd | ⟨hd1, hd⟩
        · have hy := y1 hd
          rw [hy.1]
          have HY := Lib.hid hy.2
          clear y1 y2 hy
          go_wp2_with (fail)
          refine (HA4.out.tick 64000 (by omega)).mono ?_
          rintro r w5 ⟨rfl, b5, A⟩
          have HA5 := Lib.hid A
          clear A z2 z3 z4 z5
          go_wp2_with (fail)
          go_roundw
          case rel => exact ⟨k + 1, b5, _, by go_num, by omega, HA5.out, fun _ => by have := HY.out; rwa [show ((k + 1 : Nat) : Int) = (k : Int) + 1 by omega], fun h => by omega⟩
          case measure => simp [intOf]; omega
        · have hy := y2 hd
          have HY := Lib.hid hy
          obtain ⟨x, hx⟩ : ∃ x, (losesF (askF c c.now)).state = x := ⟨_, rfl⟩
          rw [hx]
          clear y1 y2 hy hx
          go_wp2_with (fail)
          refine (HA4.out.tick 64000 (by omega)).mono ?_
          rintro r w5 ⟨rfl, b5, A⟩
          have HA5 := Lib.hid A
          clear A z2 z3 z4 z5
          go_wp2_with (fail)
          go_roundw
          case rel => exact ⟨k + 1, b5, _, by go_num, by omega, HA5.out, fun h => by omega, fun _ => HY.out⟩
          case measure => simp [intOf]; omega
      | false =>
        go_wp2_with (fail)
        refine (HA2.out.tick (tm - 1) (by omega)).mono ?_
        rintro r w3 ⟨rfl, b3, A⟩
        rw [HE.out.2.2.1] at A
        clear z2 z3 z4 z5
        have HA3 := Lib.hid A
        clear A HA2
        go_wp2_with (fail)
        refine HA3.out.state.mono ?_
        rintro r w4 ⟨rfl, A⟩
        rw [show (askF c m).state = 1 from rfl]
        have HA4 := Lib.hid A
        clear A HA3
        go_wp2_with (fail)
        refine (HA4.out.tick 1 (by omega)).mono ?_
        rintro r w5 ⟨rfl, b5, A⟩
        rw [HE.out.2.2.2.1] at A
        have HA5 := Lib.hid A
        clear A HA4
        obtain ⟨y1, y2, _⟩ := HE.out.2.2.2.2.2
        go_wp2_with (fail)
        refine HA5.out.state.mono ?_
        rintro r w6 ⟨rfl, A⟩
        obtain ⟨z2, z3, z4, z5⟩ := (HF.out.kept A.kp).cells
        have HA6 := Lib.hid A
        clear A HA5
        rcases hdec with hd | ⟨hd1, hd⟩
        · have hy := y1 hd
          rw [hy.1]
          have HY := Lib.hid hy.2
          clear y1 y2 hy
          go_wp2_with (fail)
          refine (HA6.out.tick 64000 (by omega)).mono ?_
          rintro r w7 ⟨rfl, b7, A⟩
          have HA7 := Lib.hid A
          clear A z2 z3 z4 z5
          go_wp2_with (fail)
          go_roundw
          case rel => exact ⟨k + 1, b7, _, by go_num, by omega, HA7.out, fun _ => by have := HY.out; rwa [show ((k + 1 : Nat) : Int) = (k : Int) + 1 by omega], fun h => by omega⟩
          case measure => simp [intOf]; omega
        · have hy := y2 hd
          have HY := Lib.hid hy
          obtain ⟨x, hx⟩ : ∃ x, (losesF (askF c (c.now + c.tmo))).state = x := ⟨_, rfl⟩
          rw [hx]
          clear y1 y2 hy hx
          go_wp2_with (fail)
          refine (HA6.out.tick 64000 (by omega)).mono ?_
          rintro r w7 ⟨rfl, b7, A⟩
          have HA7 := Lib.hid A
          clear A z2 z3 z4 z5
          go_wp2_with (fail)
          go_roundw
          case rel => exact ⟨k + 1, b7, _, by go_num, by omega, HA7.out, fun h => by omega, fun _ => HY.out⟩
          case measure => simp [intOf]; omega
    · obtain ⟨y1, y2, y3⟩ := h2 (by omega)
      have HAK := Lib.hid A
      have HY := Lib.hid (And.intro y1 (And.intro y2 y3))
      clear A h1 h2 y1 y2 y3
      go_wp2_with (fail)
      refine HAK.out.state.mono ?_
      rintro r w2 ⟨rfl, A⟩
      rw [HY.out.1, HY.out.2.1]
      clear z2 z3 z4 z5
      have HA2 := Lib.hid A
      have HG := Lib.hid (fun n : Nat => (got_any b bb c (w2.drewN n) (A.cl.drewN n)))
      rw [HY.out.2.2] at HG
      obtain ⟨z2, z3, z4, z5⟩ := (HF.out.kept A.kp).cells
      have hts : TS (w.alloc (.cells (FeV ho ta fr li tm tr wt) FeT)) w.heap.size fr b bb c w2 := ⟨z2, A⟩
      clear A HAK HA2 HG z2 z3 z4 z5
      go_upto_region 21 with (fail)
      go_region_held3 (fun w' => TS (w.alloc (.cells (FeV ho ta fr li tm tr wt) FeT)) w.heap.size fr b bb c w')
        (first | assumption | exact TS.step hts ((Kept.refl _ _).drew) | exact TS.step (by assumption) k3 | exact TS.step (by assumption) ((Kept.refl _ _).drew))
        (first
          | (go_at_call 11; (with_reducible refine (At0.got (And.right (by assumption))).mono ?_); rintro r w4 ⟨rfl, rfl⟩; rw [HY.out.2.2])
          | (go_at_call 9; (with_reducible refine (cfixed_any _ (HT.out.kept (At0.kp (And.right (by assumption))))).mono ?_); rintro r w3 ⟨rfl, k3⟩))
      rename_i hfin
      have HFI := Lib.hid hfin.2.kp
      clear hfin hts
      go_wp2
      go_ret
      exact ⟨rfl, HA.out.trans' HFI.out⟩
end CL
end
section
namespace CL
set_option maxHeartbeats 8000000
set_option maxRecDepth 100000
/-! ### Scripts -/
structure Op1 where
  ki : Int
  n : Int
  s : List UInt8
/-- A slice of calls, cell by cell. -/
def OpsAt (w : World) (v : Value) (os : List Op1) : Prop :=
  ∃ (p : Option Addr) (cap : Nat), v = .slice p os.length cap ∧ os.length ≤ cap ∧ cap ≤ maxLen ∧ (os ≠ [] → ∃ b off, p = some ⟨b, off, none⟩ ∧ ∀ (i : Nat) (h : i < os.length),
    w.cell? ⟨b, off + i * 3, none⟩ = some (I os[i].ki) ∧ w.cell? ⟨b, off + i * 3 + 1, none⟩ = some (I os[i].n) ∧ w.cell? ⟨b, off + i * 3 + 2, none⟩ = some (S os[i].s))
/-- What a call does. -/
def callF (c : Cl) (o : Op1) : Cl × List UInt8 × List UInt8 :=
  if o.ki = 0 then ((outF c).1, [], (outF c).2) else if o.ki = 1 then ((inF c o.s).1, (inF c o.s).2, []) else if o.ki = 2 then (lostF c, [], []) else if o.ki = 3 then (tickF c o.n, [], []) else (c, [], [])
theorem tick_lim (c : Cl) (n : Int) : (tickF c n).limit = c.limit := by
  have h1 : ∀ d : Cl, (losesF d).limit = d.limit := fun d => by
    have : (lose1 d).limit = d.limit := by unfold lose1; split <;> rfl
    unfold losesF lose2; split <;> exact this
  unfold tickF tick2
  split
  · rfl
  split
  · rfl
  split
  · rw [h1]; rfl
  · rfl
structure BdsAt (li : Int) (c : Cl) (o : Op1) (c' : Cl) (a b : List UInt8) : Prop where
  ok : c'.Ok
  ev : c'.Ev
  lim : c'.limit = li
  got : c'.got = c.got + a.length
  st : 3 ≤ c.state → c'.state = c.state ∧ c'.e = c.e ∧ a = [] ∧ b = []
theorem call_bds {li : Int} {c : Cl} (hk : c.Ok) (he : c.Ev) (hl : c.limit = li) (o : Op1) : BdsAt li c o (callF c o).1 (callF c o).2.1 (callF c o).2.2 := by
  unfold callF
  split
  · obtain ⟨a1, a2, a3⟩ := out_ev he
    exact ⟨hk.out, a1, ((K_lim (out_same c).k).1).trans hl, by rw [a2]; simp, fun h => ⟨(a3 h).1, (a3 h).2.1, rfl, (a3 h).2.2⟩⟩
  split
  · obtain ⟨a1, a2, a3⟩ := in_ev hk he o.s
    exact ⟨hk.inn _, a1, ((K_lim (in_same hk o.s).k).1).trans hl, a2, fun h => ⟨(a3 h).1, (a3 h).2.1, (a3 h).2.2, rfl⟩⟩
  split
  · obtain ⟨a1, a2, a3⟩ := lost_ev hk he
    exact ⟨hk.lost, a1, ((K_lim (lost_same hk).k).1).trans hl, by rw [a2]; simp, fun h => ⟨(a3 h).1, (a3 h).2, rfl, rfl⟩⟩
  split
  · obtain ⟨a1, a2, a3⟩ := tick_ev he o.n
    exact ⟨hk.tick _, a1, (tick_lim c o.n).trans hl, by rw [a2]; simp, fun h => ⟨(a3 h).1, (a3 h).2, rfl, rfl⟩⟩
  · exact ⟨hk, he, hl, by simp, fun _ => ⟨rfl, rfl, rfl, rfl⟩⟩
theorem new_ev (ho ta : List UInt8) (fr li tm tr wt : Int) : (newCl ho ta fr li tm tr wt).Ev := ⟨by simp [newCl], by simp [newCl]⟩
/-! ### ClientBounds -/
set_option maxRecDepth 100000 in
set_option maxHeartbeats 40000000 in
theorem bounds_any (ho ta : List UInt8) (fr li tm tr wt : Int) (v : Value) (os : List Op1) (w : World) (hT : CT w) (hv : OpsAt w v os) (hs : ∀ o ∈ os, o.s.length ≤ 999000000 ∧ o.n ≤ 9223372036854775807)
    (h1 : ho.length ≤ 9223372036854775807) (h2 : ta.length ≤ 9223372036854775807) (hf1 : -9223372036854775808 ≤ fr) (hf2 : fr ≤ 9223372036854775807) :
    Calls Tryz.prog 5 #[.agg (FeV ho ta fr li tm tr wt), v] w (LawT w) := by
  obtain ⟨p, cap, rfl, hl1, hl2, hcell⟩ := hv
  have HN := Lib.hid (fun W (k : Kept [] w W) => new_any ho ta fr li tm tr wt W (hT.pt.kept k) h1 h2 hf1 hf2)
  have hA : Kept [] w (w.alloc (.cells (FeV ho ta fr li tm tr wt) FeT)) := (Kept.refl _ _).alloc _
  have HT := Lib.hid (hT.kept hA)
  have HA := Lib.hid hA
  have hfe := fe_new w ho ta fr li tm tr wt
  obtain ⟨z0, z1, z2, z3, z4, z5, z6⟩ := hfe.all
  have HF := Lib.hid hfe
  have HC := Lib.hid (And.intro hcell hs)
  unfold maxLen at hl2
  have hll : (os.length : Int) ≤ 9223372036854775807 := by omega
  clear hT hA h1 h2 hf1 hf2 hfe hcell hs
  go_enter Tryz.func5, Tryz.ntmps5
  go_wp2_with (fail)
  refine (HN.out _ HA.out).mono ?_
  clear z0 z1 z2 z3 z4 z5 z6
  rintro e w1 (⟨hok, b, hb, rfl, hc, k1⟩ | ⟨_, rfl, k1⟩)
  case inr =>
    have K1 := Lib.hid k1
    clear k1
    go_wp2_with (fail)
    refine (cfixed_any _ (HT.out.kept K1.out)).mono ?_
    rintro e w2 ⟨rfl, k2⟩
    go_wp2_with (fail)
    go_ret
    exact ⟨rfl, (HA.out.trans' K1.out).trans' k2⟩
  obtain ⟨n1, n2, n3, n4, n5, n6, n7, n8, n9⟩ := newBd hok
  obtain ⟨F, hF⟩ : ∃ F, newCl ho ta fr li tm tr wt = F := ⟨_, rfl⟩
  have hFf : F.Ok ∧ F.Ev ∧ F.limit = li ∧ F.got = fr := by rw [← hF]; exact ⟨(newOk_ok hok).1, new_ev _ _ _ _ _ _ _, rfl, rfl⟩
  have A := At0.new HT.out (Kept.refl [] _) hb hc (newOk_ok hok).1 k1
  rw [hF] at A
  obtain ⟨z2, z3, z4, z5⟩ := (HF.out.kept A.kp).cells
  have H0 := Lib.hid A
  have HFF := Lib.hid hFf
  clear A hFf hc k1 hb hok hF HN n4 n5 n6 n7 n8 n9
  go_wp2_with (fail)
  go_loopw [7, 8] (fun g i wr => ∃ (k : Nat) (bb : Nat) (c : Cl), i = I k ∧ g = I c.got ∧ k ≤ os.length ∧ k ≤ 100 ∧ At0 (w.alloc (.cells (FeV ho ta fr li tm tr wt) FeT)) wr b bb c ∧ c.Ev ∧ c.limit = li) (fun _ i _ => 100 - (intOf i).toNat)
  case atStart => exact ⟨0, b, F, rfl, by rw [HFF.out.2.2.2], by omega, by omega, H0.out, HFF.out.2.1, HFF.out.2.2.1⟩
  case round =>
    obtain ⟨k, bb, c, rfl, rfl, hk1, hk2, A, hev, hlim⟩ := hrel
    obtain ⟨z2, z3, z4, z5⟩ := (HF.out.kept A.kp).cells
    have HAA := Lib.hid (And.intro A (And.intro hev hlim))
    have hcb := A.ok.bd
    obtain ⟨g0, g1, g2, g3, g4⟩ : 0 ≤ c.got ∧ c.got ≤ 1048576 ∧ c.got ≤ li ∧ c.total ≤ li ∧ -1 ≤ c.total := ⟨by have := hcb.f0; have := hcb.g0; omega, by have := hcb.g1; have := hcb.l1; omega, by have := hcb.g1; omega, by have := hcb.o1; omega, hcb.o0⟩
    clear A hev hlim hcb
    by_cases hlt : k < os.length ∧ k < 100
    · obtain ⟨hlt1, hlt2⟩ := hlt
      have hlt1' : (k : Int) < os.length := by omega
      have hlt2' : (k : Int) < 100 := by omega
      obtain ⟨o, ho'⟩ : ∃ o, os[k] = o := ⟨_, rfl⟩
      obtain ⟨pb, off, rfl, hcc⟩ := HC.out.1 (by intro e; rw [e] at hlt1; simp at hlt1)
      have hec := hcc k hlt1
      rw [ho'] at hec
      have hos := HC.out.2 o (by rw [← ho']; exact List.getElem_mem _)
      obtain ⟨hos1, hos2⟩ := hos
      obtain ⟨e0, e1, e2⟩ := hec
      have hpw := World.block_lt_of_cell? w _ e0
      have hbd := call_bds HAA.out.1.ok HAA.out.2.1 HAA.out.2.2 o
      obtain ⟨c', a, b', hcl⟩ : ∃ c' a b', callF c o = (c', a, b') := ⟨_, _, _, rfl⟩
      rw [hcl] at hbd
      have HB := Lib.hid (And.intro hbd hcl)
      have HO := Lib.hid (And.intro e0 (And.intro e1 e2))
      clear hcc ho' hbd hcl e0 e1 e2
      go_wp2_with (fail)
      refine HAA.out.1.state.mono ?_
      rintro r w2 ⟨rfl, A⟩
      have HA2 := Lib.hid A
      have kk := HA.out.trans' A.kp
      have e0 := Kept.cellOf kk HO.out.1
      have e1 := Kept.cellOf kk HO.out.2.1
      have e2 := Kept.cellOf kk HO.out.2.2
      clear A kk z2 z3 z4 z5
      go_upto_region 9 with (fail)
      iterate 11 go_step
      go_cut [11, 12] from 44 to 74 (fun x y wx => x = S a ∧ y = S b' ∧ ∃ b2, At0 (w.alloc (.cells (FeV ho ta fr li tm tr wt) FeT)) wx b b2 c')
      case first =>
        have hcl := HB.out.2
        unfold callF at hcl
        by_cases q0 : o.ki = 0
        · rw [if_pos q0] at hcl
          simp only [Prod.mk.injEq] at hcl
          have HCL := Lib.hid hcl
          clear hcl
          rw [q0] at e0
          go_wp2_with (fail)
          refine HA2.out.out.mono ?_
          rintro r w3 ⟨rfl, b3, A⟩
          go_wp2_with (fail)
          go_meet
          exact ⟨by rw [← HCL.out.2.1], by rw [HCL.out.2.2], b3, by rw [← HCL.out.1]; exact A⟩
        rw [if_neg q0] at hcl
        have p0 : (o.ki == 0) = false := by simpa using q0
        by_cases q1 : o.ki = 1
        · rw [if_pos q1] at hcl
          simp only [Prod.mk.injEq] at hcl
          have HCL := Lib.hid hcl
          clear hcl q0
          rw [q1] at e0 p0
          go_wp2_with (fail)
          refine (HA2.out.inn o.s hos1).mono ?_
          rintro r w3 ⟨rfl, b3, A⟩
          go_wp2_with (fail)
          go_meet
          exact ⟨by rw [HCL.out.2.1], by rw [← HCL.out.2.2], b3, by rw [← HCL.out.1]; exact A⟩
        rw [if_neg q1] at hcl
        have p1 : (o.ki == 1) = false := by simpa using q1
        by_cases q2 : o.ki = 2
        · rw [if_pos q2] at hcl
          simp only [Prod.mk.injEq] at hcl
          have HCL := Lib.hid hcl
          clear hcl q0 q1
          rw [q2] at e0 p0 p1
          go_wp2_with (fail)
          refine HA2.out.lost.mono ?_
          rintro r w3 ⟨rfl, b3, A⟩
          go_wp2_with (fail)
          go_meet
          exact ⟨by rw [← HCL.out.2.1], by rw [← HCL.out.2.2], b3, by rw [← HCL.out.1]; exact A⟩
        rw [if_neg q2] at hcl
        have p2 : (o.ki == 2) = false := by simpa using q2
        by_cases q3 : o.ki = 3
        · rw [if_pos q3] at hcl
          simp only [Prod.mk.injEq] at hcl
          have HCL := Lib.hid hcl
          clear hcl q0 q1 q2
          rw [q3] at e0 p0 p1 p2
          go_wp2_with (fail)
          refine (HA2.out.tick o.n hos2).mono ?_
          rintro r w3 ⟨rfl, b3, A⟩
          go_wp2_with (fail)
          go_meet
          exact ⟨by rw [← HCL.out.2.1], by rw [← HCL.out.2.2], b3, by rw [← HCL.out.1]; exact A⟩
        rw [if_neg q3] at hcl
        have p3 : (o.ki == 3) = false := by simpa using q3
        simp only [Prod.mk.injEq] at hcl
        have HCL := Lib.hid hcl
        clear hcl q0 q1 q2 q3
        go_wp2_with (fail)
        go_meet
        exact ⟨by rw [← HCL.out.2.1], by rw [← HCL.out.2.2], bb, by rw [← HCL.out.1]; exact HA2.out⟩
      case rest =>
        obtain ⟨rfl, rfl, b3, A⟩ := hcut
        have HA3 := Lib.hid A
        clear A e0 e1 e2 HA2
        go_wp2_with (fail)
        refine HA3.out.state.mono ?_
        rintro r w4 ⟨rfl, A⟩
        obtain ⟨z2, z3, z4, z5⟩ := (HF.out.kept A.kp).cells
        have HA4 := Lib.hid A
        have HG := Lib.hid (fun W (h : ClAt W b b3 c') => got_any b b3 c' W h)
        have HO := Lib.hid (fun W (h : ClAt W b b3 c') => total_any b b3 c' W h)
        have hcb := A.ok.bd
        have hb1 := HB.out.1.lim
        have hgg := HB.out.1.got
        obtain ⟨l0, l1, l2, l3, l4⟩ : 0 ≤ c'.got ∧ c'.got ≤ 1048576 ∧ c'.got ≤ li ∧ c'.total ≤ li ∧ -1 ≤ c'.total := ⟨by have := hcb.f0; have := hcb.g0; omega, by have := hcb.g1; have := hcb.l1; omega, by have := hcb.g1; omega, by have := hcb.o1; omega, hcb.o0⟩
        have hev := HB.out.1.ev
        have hst := HB.out.1.st
        have hs1 := A.ok.st1
        clear A HA3 hcb hb1
        have t1 : (c'.got != c.got + (a.length : Int)) = false := by simp; omega
        have al : (a.length : Int) ≤ 1048576 := by omega
        have HGG := Lib.hid hgg
        clear hgg
        go_upto_region 20 with (fail)
        go_cut [100] from 80 to 100 (fun v wx => v = .bool false ∧ At0 (w.alloc (.cells (FeV ho ta fr li tm tr wt) FeT)) wx b b3 c')
        case first =>
          have t2 : decide (li < c'.got) = false := decide_eq_false (by omega)
          have t3 : decide (li < c'.total) = false := decide_eq_false (by omega)
          go_quiet (first
            | (go_at_call 11; exact Calls.quiet_of_same (HG.out _ (HA4.out.cl.drewN _)))
            | (go_at_call 15; exact Calls.quiet_of_same (HO.out _ (HA4.out.cl.drewN _))))
          go_wp2
          go_meet
          exact ⟨rfl, HA4.out.same ((Kept.refl _ _).drewN _)⟩
        case rest =>
          obtain ⟨rfl, A⟩ := hcut
          have HA5 := Lib.hid A
          clear A HA4
          obtain ⟨z2, z3, z4, z5⟩ := (HF.out.kept HA5.out.kp).cells
          go_wp2_with (fail)
          refine (HG.out _ HA5.out.cl).mono ?_
          rintro r w5 ⟨rfl, rfl⟩
          have hst3 : (c'.e = 0 ∧ c'.state ≠ 4 ∧ c'.state ≠ 3) ∨ (c'.e = 0 ∧ c'.state = 3 ∧ c'.got = c'.total) ∨ (c'.e ≠ 0 ∧ c'.state = 4) := by
            have h0 := hev.e0
            have h1 := hev.done
            by_cases e4 : c'.state = 4
            · exact .inr (.inr ⟨h0.2 e4, e4⟩)
            · have e0 : c'.e = 0 := by
                apply Decidable.byContradiction
                intro hn
                exact e4 (h0.1 hn)
              by_cases e3 : c'.state = 3
              · exact .inr (.inl ⟨e0, e3, h1 e3⟩)
              · exact .inl ⟨e0, e4, e3⟩
          have HEV := Lib.hid hev
          clear hev hs1
          by_cases h3 : 3 ≤ c.state
          · obtain ⟨m1, m2, m3, m4⟩ := hst h3
            subst m3 m4
            have q1 : (c'.state != c.state) = false := by simpa using m1
            have q2 : (c'.e != c.e) = false := by simpa using m2
            clear m1 m2 hst
            rcases hst3 with ⟨y1, y2, y3⟩ | ⟨y1, y2, y3⟩ | ⟨y1, y2⟩
            · have r1 : (c'.e != 0) = false := by simpa using y1
              have r2 : (c'.state == 4) = false := by simpa using y2
              have r3 : (c'.state == 3) = false := by simpa using y3
              clear y1 y2 y3
              go_wp2_with (fail)
              go_roundw
              case rel => exact ⟨k + 1, b3, c', by go_num, rfl, by omega, by omega, HA5.out, HEV.out, HB.out.1.lim⟩
              case measure => simp [intOf]; omega
            · have r1 : (c'.e != 0) = false := by simpa using y1
              have r2 : (c'.state == 4) = false := by simp [y2]
              have r3 : (c'.state == 3) = true := by simp [y2]
              have r4 : (c'.got != c'.total) = false := by simpa using y3
              clear y1 y2 y3
              go_wp2_with (fail)
              refine (HG.out _ HA5.out.cl).mono ?_
              rintro r w6 ⟨rfl, rfl⟩
              go_wp2_with (fail)
              refine (HO.out _ HA5.out.cl).mono ?_
              rintro r w6 ⟨rfl, rfl⟩
              go_wp2_with (fail)
              go_roundw
              case rel => exact ⟨k + 1, b3, c', by go_num, rfl, by omega, by omega, HA5.out, HEV.out, HB.out.1.lim⟩
              case measure => simp [intOf]; omega
            · have r1 : (c'.e != 0) = true := by simpa using y1
              have r2 : (c'.state == 4) = true := by simp [y2]
              have r3 : (c'.state == 3) = false := by simp [y2]
              clear y1 y2
              go_wp2_with (fail)
              go_roundw
              case rel => exact ⟨k + 1, b3, c', by go_num, rfl, by omega, by omega, HA5.out, HEV.out, HB.out.1.lim⟩
              case measure => simp [intOf]; omega
          · have h3' : decide (3 ≤ c.state) = false := decide_eq_false h3
            clear hst
            rcases hst3 with ⟨y1, y2, y3⟩ | ⟨y1, y2, y3⟩ | ⟨y1, y2⟩
            · have r1 : (c'.e != 0) = false := by simpa using y1
              have r2 : (c'.state == 4) = false := by simpa using y2
              have r3 : (c'.state == 3) = false := by simpa using y3
              clear y1 y2 y3 h3
              go_wp2_with (fail)
              go_roundw
              case rel => exact ⟨k + 1, b3, c', by go_num, rfl, by omega, by omega, HA5.out, HEV.out, HB.out.1.lim⟩
              case measure => simp [intOf]; omega
            · have r1 : (c'.e != 0) = false := by simpa using y1
              have r2 : (c'.state == 4) = false := by simp [y2]
              have r3 : (c'.state == 3) = true := by simp [y2]
              have r4 : (c'.got != c'.total) = false := by simpa using y3
              clear y1 y2 y3 h3
              go_wp2_with (fail)
              refine (HG.out _ HA5.out.cl).mono ?_
              rintro r w6 ⟨rfl, rfl⟩
              go_wp2_with (fail)
              refine (HO.out _ HA5.out.cl).mono ?_
              rintro r w6 ⟨rfl, rfl⟩
              go_wp2_with (fail)
              go_roundw
              case rel => exact ⟨k + 1, b3, c', by go_num, rfl, by omega, by omega, HA5.out, HEV.out, HB.out.1.lim⟩
              case measure => simp [intOf]; omega
            · have r1 : (c'.e != 0) = true := by simpa using y1
              have r2 : (c'.state == 4) = true := by simp [y2]
              have r3 : (c'.state == 3) = false := by simp [y2]
              clear y1 y2 h3
              go_wp2_with (fail)
              go_roundw
              case rel => exact ⟨k + 1, b3, c', by go_num, rfl, by omega, by omega, HA5.out, HEV.out, HB.out.1.lim⟩
              case measure => simp [intOf]; omega
    · have hdone : (¬ (k : Int) < os.length) ∨ ((k : Int) < os.length ∧ ¬ (k : Int) < 100) := by omega
      have HK := Lib.hid (HAA.out.1.kp)
      rcases hdone with hd | ⟨hd1, hd2⟩
      · clear HAA
        go_wp2_with (fail)
        refine (cfixed_any _ (HT.out.kept HK.out)).mono ?_
        rintro e w3 ⟨rfl, k3⟩
        go_wp2_with (fail)
        go_ret
        exact ⟨rfl, (HA.out.trans' HK.out).trans' k3⟩
      · clear HAA
        go_wp2_with (fail)
        refine (cfixed_any _ (HT.out.kept HK.out)).mono ?_
        rintro e w3 ⟨rfl, k3⟩
        go_wp2_with (fail)
        go_ret
        exact ⟨rfl, (HA.out.trans' HK.out).trans' k3⟩
end CL
end
end Go.Proofs.YtgdncdhalnijcaaGreatDoor
