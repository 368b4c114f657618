/- Walks and lemmas on the program of this seat, used by its statements; each theorem bears its own conditions. -/
import Derived.Test.YtgdncdhalnijcaaGreatDoorMCC
import Derived.Test.YtgdncdhalnijcaaGreatDoorMRU
import Derived.Test.YtgdncdhalnijcaaGreatDoorMHN
import Derived.Handy
import Derived.Recover
import Derived.IntWalk
import Derived.Deep.CutRange
import Derived.OwnWalk
import Derived.Deep.AppendLies
import Derived.Deep.RegionLaw
import Derived.Deep.RegionHeld3
import Derived.StillTailTactics
import Derived.RegionTactic
import Derived.ChangeAlike
namespace Go.Proofs.YtgdncdhalnijcaaGreatDoor
open Go.RowKit
set_option linter.unusedVariables false
set_option linter.unusedSimpArgs false
section
namespace CL
set_option maxHeartbeats 8000000
set_option maxRecDepth 100000
/-! ### The client's calls, pure -/
def formedF (e : Int) : Int := if e = 181 then 193 else 192
def crName : List UInt8 := [99, 111, 110, 116, 101, 110, 116, 45, 114, 97, 110, 103, 101]
def heads3 (c : Cl) (whole : Int) : Cl × Bool :=
  if whole < 0 then (c, true) else if c.limit < whole then (failsF c 193, false)
  else if (0 ≤ c.total ∧ c.total ≠ whole) ∨ whole < c.got then (failsF c 192, false) else ({ c with total := whole }, true)
def spanYes (c : Cl) (r : BD.Rd) (x : Sp) (n : Nat) : Bool := decide (n = 1 ∧ x.ok = true ∧ x.f = c.got ∧ ¬ (0 ≤ r.size ∧ r.size ≠ x.t - x.f + 1))
def heads2 (c : Cl) (r : BD.Rd) (h : Hd) : Cl × Bool :=
  if h.st = 206 then
    (if spanYes c r (spanF (getF h.ns h.vs crName).1) (getF h.ns h.vs crName).2 = true then heads3 { c with left := (spanF (getF h.ns h.vs crName).1).t - (spanF (getF h.ns h.vs crName).1).f + 1 } (spanF (getF h.ns h.vs crName).1).a else (failsF c 192, false))
  else heads3 { c with skip := c.got } r.size
def headsF (c : Cl) (h : Hd) : Cl × Bool :=
  if h.st = 408 ∨ h.st = 429 ∨ 500 ≤ h.st then (losesF c, false)
  else if h.st ≠ 200 ∧ h.st ≠ 206 then (failsF c 191, false)
  else match BD.newF h.st h.ns h.vs with
    | (some r, _) => heads2 { c with body := some r } r h
    | (none, e) => (failsF c (formedF e), false)
def in3 (c : Cl) (o : List UInt8) (d : Bool) : Cl × List UInt8 := if (toldF c o).1.state = 1 ∧ d = true then (endsF (toldF c o).1, (toldF c o).2) else toldF c o
def in2 (c : Cl) (r : BD.Rd) (s : List UInt8) : Cl × List UInt8 :=
  if (BD.writeF r s).2.2 = 0 then in3 { c with body := some (BD.writeF r s).1 } (BD.writeF r s).2.1 (BD.doneF (BD.writeF r s).1)
  else (failsF { c with body := some (BD.writeF r s).1 } (formedF (BD.writeF r s).2.2), [])
def in1h (c : Cl) (hd : List UInt8) (h : Hd) (n : Nat) : Cl × List UInt8 :=
  if (headsF c h).2 = true then (match (headsF c h).1.body with | some r => in2 (headsF c h).1 r (hd.drop n) | none => ((headsF c h).1, [])) else ((headsF c h).1, [])
def in1n (c : Cl) (hd : List UInt8) : Cl × List UInt8 :=
  match parseF hd with
  | .done h n => in1h { c with head := hd } hd h n
  | .fail e => if e = 172 then ({ c with head := hd }, []) else (failsF { c with head := hd } 192, [])
  | .on _ _ => ({ c with head := hd }, [])
def in1 (c : Cl) (s : List UInt8) : Cl × List UInt8 := match c.body with | some r => in2 c r s | none => in1n c (c.head ++ s)
def inF (c : Cl) (s : List UInt8) : Cl × List UInt8 :=
  if c.state = 1 then in1 (if s = [] then c else { c with last := c.now }) s else (c, [])
def lostF (c : Cl) : Cl :=
  if c.state = 1 then (match c.body with
    | none => losesF c
    | some r => if (BD.closeF r).2 = 0 then endsF { c with body := some (BD.closeF r).1 } else losesF { c with body := some (BD.closeF r).1 })
  else c
/-! ### What stays so -/
theorem feed_rest (r : BD.Rd) (c : UInt8) (h : r.state ≠ 11) : (BD.feed r c).1.rest = r.rest := by
  have k := (BD.keeps_byte r c).2.2.2
  unfold BD.feed
  rw [if_neg h]
  split
  · split <;> rfl
  split
  · rfl
  split
  · rfl
  · exact k
theorem feed_eleven (r : BD.Rd) (c : UInt8) (h : r.state = 11) : (BD.feed r c).1.state = 11 := by
  unfold BD.feed; rw [if_pos h]; exact h
theorem feeds_rest (s : List UInt8) : ∀ r : BD.Rd, r.rest = [] → (BD.feeds r s).1.state ≠ 11 → (BD.feeds r s).1.rest = [] := by
  have h11 : ∀ (s : List UInt8) (r : BD.Rd), r.state = 11 → (BD.feeds r s).1.state = 11 := by
    intro s
    induction s with
    | nil => intro r h; exact h
    | cons c s ih =>
      intro r h
      have h1 := ih _ (feed_eleven r c h)
      unfold BD.feeds
      split
      · split <;> exact h1
      · exact feed_eleven r c h
  induction s with
  | nil => intro r h _; exact h
  | cons c s ih =>
    intro r h hn
    have hr : r.state ≠ 11 := fun e => hn (h11 _ r e)
    have h1 := feed_rest r c hr
    rw [h] at h1
    unfold BD.feeds at hn ⊢
    by_cases e1 : (BD.feed r c).2.2 = 0
    · rw [if_pos e1] at hn ⊢
      have h2 := ih _ h1
      by_cases e2 : (BD.feeds (BD.feed r c).1 s).2.2 = 0
      · rw [if_pos e2] at hn ⊢; exact h2 hn
      · rw [if_neg e2] at hn ⊢; exact h2 hn
    · rw [if_neg e1]; exact h1
structure Cl.Ok (c : Cl) : Prop where
  bd : c.Bd
  st0 : 0 ≤ c.state
  st1 : c.state ≤ 4
  tr : c.state ≤ 2 → 1 ≤ c.tries
  ho : c.host.length ≤ 64
  ta : c.target.length ≤ 64
  bo : ∀ r, c.body = some r → r.Ok
  rd : c.state = 1 → ∀ r, c.body = some r → r.e = 0 ∧ r.state ≠ 11 ∧ r.rest = []
  hd : c.state = 1 → c.body = none → c.head.length < 2048
theorem Cl.Ok.fails {c : Cl} (h : c.Ok) (k : Int) : (failsF c k).Ok :=
  ⟨h.bd.fails k, by simp [failsF], by simp [failsF], by simp [failsF], h.ho, h.ta, h.bo, by simp [failsF], by simp [failsF]⟩
theorem lose1_eq (c : Cl) : (lose1 c).state = c.state ∧ (lose1 c).host = c.host ∧ (lose1 c).target = c.target ∧ (lose1 c).body = c.body := by
  unfold lose1; split <;> exact ⟨rfl, rfl, rfl, rfl⟩
theorem lose1_tries {c : Cl} (h : c.Bd) (ht : 1 ≤ c.tries) : 1 ≤ (lose1 c).tries := by
  unfold lose1; split
  · exact h.r0
  · exact ht
/-- What loses asks of a client. -/
structure Cl.Pre (c : Cl) : Prop where
  bd : c.Bd
  tr : 1 ≤ c.tries
  ho : c.host.length ≤ 64
  ta : c.target.length ≤ 64
  bo : ∀ r, c.body = some r → r.Ok
theorem Cl.Ok.pre {c : Cl} (h : c.Ok) (hs : c.state = 1) : c.Pre := ⟨h.bd, h.tr (by omega), h.ho, h.ta, h.bo⟩
theorem Cl.Pre.fails {c : Cl} (h : c.Pre) (k : Int) : (failsF c k).Ok :=
  ⟨h.bd.fails k, by simp [failsF], by simp [failsF], by simp [failsF], h.ho, h.ta, h.bo, by simp [failsF], by simp [failsF]⟩
theorem Cl.Pre.loses {c : Cl} (h : c.Pre) : (losesF c).Ok := by
  have hb := h.bd.loses (lose1_tries h.bd h.tr)
  obtain ⟨_, e2, e3, e4⟩ := lose1_eq c
  have ht := lose1_tries h.bd h.tr
  have h2 := h.ho
  have h3 := h.ta
  have h4 := h.bo
  rw [← e2] at h2
  rw [← e3] at h3
  rw [← e4] at h4
  unfold losesF lose2 at hb ⊢
  by_cases hz : (lose1 c).tries - 1 = 0
  · rw [if_pos hz] at hb ⊢
    exact ⟨hb, by simp [failsF], by simp [failsF], by simp [failsF], h2, h3, h4, by simp [failsF], by simp [failsF]⟩
  · rw [if_neg hz] at hb ⊢
    exact ⟨hb, by simp, by simp, fun _ => by show 1 ≤ (lose1 c).tries - 1; omega, h2, h3, h4, by simp, by simp⟩
theorem Cl.Pre.ends {c : Cl} (h : c.Pre) : (endsF c).Ok := by
  have hb := h.bd.ends1
  have e1 : (ends1 c).tries = c.tries ∧ (ends1 c).host = c.host ∧ (ends1 c).target = c.target ∧ (ends1 c).body = c.body := by unfold ends1; split <;> exact ⟨rfl, rfl, rfl, rfl⟩
  obtain ⟨e1, e2, e3, e4⟩ := e1
  have hp : (ends1 c).Pre := ⟨hb, by rw [e1]; exact h.tr, by rw [e2]; exact h.ho, by rw [e3]; exact h.ta, by rw [e4]; exact h.bo⟩
  unfold endsF
  split
  · exact h.fails _
  · split
    · exact ⟨⟨hb.f0, hb.f1, hb.l1, hb.t0, hb.t1, hb.r0, hb.r1, hb.w0, hb.w1, hb.g0, hb.g1, hb.o0, hb.o1, hb.n0, hb.n1, hb.y0, hb.y1, hb.a0, hb.a1, hb.k0, hb.k1, hb.b0, hb.b1, hb.s0, hb.s1, hb.p0, hb.p1, hb.q0, hb.q1⟩, by simp, by simp, by simp, hp.ho, hp.ta, hp.bo, by simp, by simp⟩
    · exact hp.loses
theorem Cl.Ok.tick {c : Cl} (h : c.Ok) (n : Int) : (tickF c n).Ok := by
  unfold tickF
  split
  · exact h
  · rename_i hn
    have hb := h.bd.tick1 n (by omega)
    have hk : (tick1 c n).Ok := ⟨hb, h.st0, h.st1, h.tr, h.ho, h.ta, h.bo, h.rd, h.hd⟩
    unfold tick2
    split
    · rename_i h2
      exact ⟨⟨hb.f0, hb.f1, hb.l1, hb.t0, hb.t1, hb.r0, hb.r1, hb.w0, hb.w1, hb.g0, hb.g1, hb.o0, hb.o1, hb.n0, hb.n1, hb.y0, hb.y1, hb.a0, hb.a1, hb.k0, hb.k1, hb.b0, hb.b1, hb.s0, hb.s1, hb.p0, hb.p1, hb.q0, hb.q1⟩, by simp, by simp, fun _ => hk.tr (by omega), h.ho, h.ta, h.bo, by simp, by simp⟩
    · split
      · rename_i h2
        exact (hk.pre h2.1).loses
      · exact hk
theorem Cl.Ok.out {c : Cl} (h : c.Ok) : (outF c).1.Ok := by
  unfold outF
  split
  · rename_i h0
    have hb := h.bd
    exact ⟨⟨hb.f0, hb.f1, hb.l1, hb.t0, hb.t1, hb.r0, hb.r1, hb.w0, hb.w1, hb.g0, hb.g1, hb.o0, hb.o1, hb.n0, hb.n1, hb.y0, hb.y1, hb.a0, hb.a1, hb.k0, hb.k1, Int.le_trans hb.f0 hb.g0, Int.le_refl _, hb.n0, Int.le_refl _, by simp, by simp, by simp, by simp⟩, by simp, by simp, fun _ => h.tr (by omega), h.ho, h.ta, by simp, by simp, by simp⟩
  · exact h
/-- What told and the calls behind ask. -/
theorem told_bd {c : Cl} (h : c.Bd) (s : List UInt8) : (toldF c s).1.Bd ∧ ((toldF c s).1.state = c.state ∨ (toldF c s).1.state = 4) ∧ (toldF c s).1.tries = c.tries ∧ (toldF c s).1.host = c.host ∧ (toldF c s).1.target = c.target ∧ (toldF c s).1.body = c.body ∧ (toldF c s).1.head = c.head := by
  obtain ⟨f0, f1, l1, t0, t1, r0, r1, w0, w1, g0, g1, o0, o1, n0, n1, y0, y1, a0, a1, k0, k1, b0, b1, s0, s1, p0, p1, q0, q1⟩ := h
  unfold toldF told2 failsF
  obtain ⟨t, ht⟩ : ∃ t, s.drop (min c.skip (s.length : Int)).toNat = t := ⟨_, rfl⟩
  rw [ht]
  split
  · exact ⟨by constructor <;> first | assumption | (simp only; omega), .inr rfl, rfl, rfl, rfl, rfl, rfl⟩
  split
  · exact ⟨by constructor <;> first | assumption | (simp only; omega), .inr rfl, rfl, rfl, rfl, rfl, rfl⟩
  rename_i h1 h2
  simp only at h1 h2
  unfold told3
  by_cases hl : 0 ≤ c.left
  · simp only [if_pos hl]
    refine ⟨by constructor <;> first | assumption | (simp only; omega), ?_⟩
    simp
  · simp only [if_neg hl]
    refine ⟨by constructor <;> first | assumption | (simp only; omega), ?_⟩
    simp
theorem in2_ok {c : Cl} {r : BD.Rd} (h : c.Pre) (hs : c.state = 1) (hr : r.Ok) (he : r.e = 0) (ht : r.rest = []) (s : List UInt8) : (in2 c r s).1.Ok := by
  obtain ⟨hi, hs1, hs2⟩ := hr he
  obtain ⟨r1, o, k, hf⟩ : ∃ r1 o k, BD.feeds r s = (r1, o, k) := ⟨_, _, _, rfl⟩
  obtain ⟨he1, hz1⟩ := BD.feeds_e hf
  unfold in2
  by_cases hk : k = 0
  · subst hk
    rw [BD.write_ok he hf]
    simp only [if_true]
    have hi1 := BD.inv_feeds s hi ⟨hs1, hs2⟩ (by rw [hf])
    rw [hf] at hi1
    have hrest := feeds_rest s r ht
    rw [hf] at hrest
    have hp : ({ c with body := some r1 } : Cl).Bd := ⟨h.bd.f0, h.bd.f1, h.bd.l1, h.bd.t0, h.bd.t1, h.bd.r0, h.bd.r1, h.bd.w0, h.bd.w1, h.bd.g0, h.bd.g1, h.bd.o0, h.bd.o1, h.bd.n0, h.bd.n1, h.bd.y0, h.bd.y1, h.bd.a0, h.bd.a1, h.bd.k0, h.bd.k1, h.bd.b0, h.bd.b1, h.bd.s0, h.bd.s1, h.bd.p0, h.bd.p1, h.bd.q0, h.bd.q1⟩
    have ho1 : r1.Ok := fun _ => hi1
    obtain ⟨tb, ts, tt, th, tta, tbo, thd⟩ := told_bd hp o
    have hpre : (toldF { c with body := some r1 } o).1.Pre := ⟨tb, by rw [tt]; exact h.tr, by rw [th]; exact h.ho, by rw [tta]; exact h.ta, fun r' hr' => by rw [tbo] at hr'; cases hr'; exact ho1⟩
    unfold in3
    split
    · exact hpre.ends
    · rename_i hn
      refine ⟨tb, ?_, ?_, fun _ => hpre.tr, hpre.ho, hpre.ta, hpre.bo, ?_, ?_⟩
      · rcases ts with e | e <;> rw [e]
        · show 0 ≤ c.state; omega
        · decide
      · rcases ts with e | e <;> rw [e]
        · show c.state ≤ 4; omega
        · decide
      · intro h1 r' hr'
        rw [tbo] at hr'; cases hr'
        have hd : ¬ BD.doneF r1 = true := fun hd => hn ⟨h1, hd⟩
        have h11 : r1.state ≠ 11 := fun e => hd (by unfold BD.doneF; exact decide_eq_true ⟨e, by rw [he1]; exact he⟩)
        exact ⟨by rw [he1]; exact he, h11, hrest h11⟩
      · intro _ hbn
        rw [tbo] at hbn; cases hbn
  · rw [BD.write_err he hf hk]
    simp only [if_neg hk]
    have hp2 : ({ c with body := some { r1 with told := r.told, e := k } } : Cl).Pre := ⟨⟨h.bd.f0, h.bd.f1, h.bd.l1, h.bd.t0, h.bd.t1, h.bd.r0, h.bd.r1, h.bd.w0, h.bd.w1, h.bd.g0, h.bd.g1, h.bd.o0, h.bd.o1, h.bd.n0, h.bd.n1, h.bd.y0, h.bd.y1, h.bd.a0, h.bd.a1, h.bd.k0, h.bd.k1, h.bd.b0, h.bd.b1, h.bd.s0, h.bd.s1, h.bd.p0, h.bd.p1, h.bd.q0, h.bd.q1⟩, h.tr, h.ho, h.ta, fun r' hr' => by cases hr'; exact fun e => absurd e hk⟩
    exact hp2.fails _
theorem heads3_ok {c : Cl} (h : c.Pre) (whole : Int) : ((heads3 c whole).2 = true → (heads3 c whole).1.Pre ∧ (heads3 c whole).1.state = c.state ∧ (heads3 c whole).1.body = c.body) ∧ ((heads3 c whole).2 = false → (heads3 c whole).1.Ok) := by
  unfold heads3
  split
  · exact ⟨fun _ => ⟨h, rfl, rfl⟩, fun e => by cases e⟩
  split
  · exact ⟨fun e => (by cases e), fun _ => h.fails _⟩
  split
  · exact ⟨fun e => (by cases e), fun _ => h.fails _⟩
  · refine ⟨fun _ => ⟨⟨?_, h.tr, h.ho, h.ta, h.bo⟩, rfl, rfl⟩, fun e => by cases e⟩
    obtain ⟨f0, f1, l1, t0, t1, r0, r1, w0, w1, g0, g1, o0, o1, n0, n1, y0, y1, a0, a1, k0, k1, b0, b1, s0, s1, p0, p1, q0, q1⟩ := h.bd
    constructor <;> first | assumption | (simp only; omega)
theorem heads2_ok {c : Cl} {r : BD.Rd} (h : c.Pre) (x : Hd) : ((heads2 c r x).2 = true → (heads2 c r x).1.Pre ∧ (heads2 c r x).1.state = c.state ∧ (heads2 c r x).1.body = c.body) ∧ ((heads2 c r x).2 = false → (heads2 c r x).1.Ok) := by
  obtain ⟨f0, f1, l1, t0, t1, r0, r1, w0, w1, g0, g1, o0, o1, n0, n1, y0, y1, a0, a1, k0, k1, b0, b1, s0, s1, p0, p1, q0, q1⟩ := h.bd
  unfold heads2
  split
  · split
    · rename_i hy
      unfold spanYes at hy
      obtain ⟨_, hok, hf, _⟩ := of_decide_eq_true hy
      have hb : 0 ≤ (spanF (getF x.ns x.vs crName).1).f ∧ (spanF (getF x.ns x.vs crName).1).f ≤ (spanF (getF x.ns x.vs crName).1).t := by
        unfold spanF at hok ⊢
        simp only [Bool.and_eq_true, decide_eq_true_eq] at hok
        exact ⟨hok.1.1.2, hok.1.2⟩
      have ht9 : (spanF (getF x.ns x.vs crName).1).t ≤ 999999999 := (num_bd _).2
      obtain ⟨sp, hsp⟩ : ∃ sp, spanF (getF x.ns x.vs crName).1 = sp := ⟨_, rfl⟩
      rw [hsp] at hb ht9 ⊢
      obtain ⟨hb1, hb2⟩ := hb
      have hp : ({ c with left := sp.t - sp.f + 1 } : Cl).Pre := ⟨by constructor <;> first | assumption | (simp only; omega), h.tr, h.ho, h.ta, h.bo⟩
      exact heads3_ok hp sp.a
    · exact ⟨fun e => (by cases e), fun _ => h.fails _⟩
  · have hp : ({ c with skip := c.got } : Cl).Pre := ⟨by constructor <;> first | assumption | (simp only; omega), h.tr, h.ho, h.ta, h.bo⟩
    exact heads3_ok hp r.size
theorem newF_start {st : Int} {ns vs : List (List UInt8)} {r : BD.Rd} {k : Int} (h : BD.newF st ns vs = (some r, k)) : r.Ok ∧ r.e = 0 ∧ r.rest = [] ∧ r.told = 0 := by
  rcases BD.newF_cases st ns vs with ⟨k', h1, _⟩ | ⟨r', h1, h2, h3, h4, h5, h6, _⟩
  · rw [h1] at h; cases h
  · rw [h1] at h; cases h
    exact ⟨fun _ => ⟨h2, h3⟩, h4, h5, h6⟩
theorem headsF_ok {c : Cl} (h : c.Pre) (hs : c.state = 1) (x : Hd) : ((headsF c x).2 = true → (headsF c x).1.Pre ∧ (headsF c x).1.state = 1 ∧ ∃ r, (headsF c x).1.body = some r ∧ r.Ok ∧ r.e = 0 ∧ r.rest = []) ∧ ((headsF c x).2 = false → (headsF c x).1.Ok) := by
  unfold headsF
  split
  · exact ⟨fun e => (by cases e), fun _ => h.loses⟩
  split
  · exact ⟨fun e => (by cases e), fun _ => h.fails _⟩
  split
  · rename_i r k hn
    obtain ⟨s1, s2, s3, _⟩ := newF_start hn
    have hp : ({ c with body := some r } : Cl).Pre := ⟨⟨h.bd.f0, h.bd.f1, h.bd.l1, h.bd.t0, h.bd.t1, h.bd.r0, h.bd.r1, h.bd.w0, h.bd.w1, h.bd.g0, h.bd.g1, h.bd.o0, h.bd.o1, h.bd.n0, h.bd.n1, h.bd.y0, h.bd.y1, h.bd.a0, h.bd.a1, h.bd.k0, h.bd.k1, h.bd.b0, h.bd.b1, h.bd.s0, h.bd.s1, h.bd.p0, h.bd.p1, h.bd.q0, h.bd.q1⟩, h.tr, h.ho, h.ta, fun r' hr' => by cases hr'; exact s1⟩
    obtain ⟨a1, a2⟩ := heads2_ok (r := r) hp x
    refine ⟨fun e => ?_, a2⟩
    obtain ⟨b1, b2, b3⟩ := a1 e
    exact ⟨b1, by rw [b2]; exact hs, r, by rw [b3], s1, s2, s3⟩
  · exact ⟨fun e => (by cases e), fun _ => h.fails _⟩
theorem turn_172 {s : List UInt8} {h : Hd} {n : Nat} (ht : turnF s h n = .fail 172) : s.length < 2048 := by
  unfold turnF at ht
  cases hc : crlf (s.drop n) with
  | none =>
    rw [hc] at ht
    simp only at ht
    by_cases hl : lenCR (s.drop n) ≤ 256 ∧ s.length < 2048
    · exact hl.2
    · rw [if_neg hl] at ht; cases ht
  | some i =>
    rw [hc] at ht
    simp only at ht
    split at ht
    · cases ht
    split at ht
    · split at ht <;> cases ht
    split at ht
    · cases ht
    · rcases fieldF_cases ((s.drop n).take i) h (n + i + 2) with e | e | ⟨e, _⟩ <;> rw [e] at ht <;> cases ht
theorem run_172 (s : List UInt8) : ∀ (f : Nat) (h : Hd) (n : Nat), runF s f h n = .fail 172 → s.length < 2048
  | 0, _, _, e => by cases e
  | f + 1, h, n, e => by
    unfold runF at e
    cases ht : turnF s h n with
    | fail k => rw [ht] at e; cases e; exact turn_172 ht
    | done h1 n1 => rw [ht] at e; cases e
    | on h1 n1 => rw [ht] at e; exact run_172 s f _ _ e
theorem parse_172 {s : List UInt8} (h : parseF s = .fail 172) : s.length < 2048 := run_172 s 3000 zeroH 0 h
theorem in1n_ok {c : Cl} (h : c.Ok) (hs : c.state = 1) (hbn : c.body = none) (hd : List UInt8) : (in1n c hd).1.Ok := by
  have hb : ({ c with head := hd } : Cl).Bd := ⟨h.bd.f0, h.bd.f1, h.bd.l1, h.bd.t0, h.bd.t1, h.bd.r0, h.bd.r1, h.bd.w0, h.bd.w1, h.bd.g0, h.bd.g1, h.bd.o0, h.bd.o1, h.bd.n0, h.bd.n1, h.bd.y0, h.bd.y1, h.bd.a0, h.bd.a1, h.bd.k0, h.bd.k1, h.bd.b0, h.bd.b1, h.bd.s0, h.bd.s1, h.bd.p0, h.bd.p1, h.bd.q0, h.bd.q1⟩
  have hp : ({ c with head := hd } : Cl).Pre := ⟨hb, h.tr (by omega), h.ho, h.ta, h.bo⟩
  unfold in1n
  cases hq : parseF hd with
  | fail e =>
    simp only
    split
    · rename_i e172
      subst e172
      exact ⟨hb, h.st0, h.st1, h.tr, h.ho, h.ta, h.bo, h.rd, fun _ _ => parse_172 hq⟩
    · exact hp.fails _
  | on a b => exact absurd hq (by unfold parseF; exact runF_on _ _ _ _ _ _)
  | done x n =>
    simp only
    unfold in1h
    obtain ⟨a1, a2⟩ := headsF_ok hp hs x
    by_cases e : (headsF { c with head := hd } x).2 = true
    · rw [if_pos e]
      obtain ⟨b1, b2, r, b3, b4, b5, b6⟩ := a1 e
      rw [b3]
      exact in2_ok b1 b2 b4 b5 b6 _
    · rw [if_neg e]; exact a2 (by simpa using e)
theorem Cl.Ok.inn {c : Cl} (h : c.Ok) (s : List UInt8) : (inF c s).1.Ok := by
  unfold inF
  split
  · rename_i hs
    obtain ⟨d, hd⟩ : ∃ d, (if s = [] then c else { c with last := c.now }) = d := ⟨_, rfl⟩
    have hdo : d.Ok ∧ d.state = 1 := by
      rw [← hd]
      split
      · exact ⟨h, hs⟩
      · exact ⟨⟨⟨h.bd.f0, h.bd.f1, h.bd.l1, h.bd.t0, h.bd.t1, h.bd.r0, h.bd.r1, h.bd.w0, h.bd.w1, h.bd.g0, h.bd.g1, h.bd.o0, h.bd.o1, h.bd.n0, h.bd.n1, h.bd.y0, h.bd.y1, h.bd.a0, h.bd.a1, h.bd.k0, h.bd.k1, h.bd.b0, h.bd.b1, h.bd.n0, Int.le_refl _, h.bd.p0, h.bd.p1, h.bd.q0, h.bd.q1⟩, h.st0, h.st1, h.tr, h.ho, h.ta, h.bo, h.rd, h.hd⟩, hs⟩
    rw [hd]
    obtain ⟨h1, h2⟩ := hdo
    unfold in1
    cases hb : d.body with
    | none => exact in1n_ok h1 h2 hb _
    | some r =>
      obtain ⟨r1, r2, r3⟩ := h1.rd h2 r hb
      exact in2_ok (h1.pre h2) h2 (h1.bo r hb) r1 r3 s
  · exact h
theorem closeF_ok {r : BD.Rd} (h : r.Ok) (h0 : r.e = 0) : (BD.closeF r).1.Ok := by
  unfold BD.closeF
  split
  · exact h
  split
  · rename_i h1 h2
    intro e
    obtain ⟨hi, h3, h4⟩ := h h0
    exact ⟨⟨hi.m0, hi.m1, hi.l0, hi.l1, hi.f0, hi.f1, hi.t0, hi.t1, by simp, by simp, by simp, by simp⟩, by simp, by simp⟩
  · intro e; cases e
theorem Cl.Ok.lost {c : Cl} (h : c.Ok) : (lostF c).Ok := by
  unfold lostF
  split
  · rename_i hs
    cases hb : c.body with
    | none => exact (h.pre hs).loses
    | some r =>
      simp only
      obtain ⟨r1, r2, r3⟩ := h.rd hs r hb
      have hp : ({ c with body := some (BD.closeF r).1 } : Cl).Pre := ⟨⟨h.bd.f0, h.bd.f1, h.bd.l1, h.bd.t0, h.bd.t1, h.bd.r0, h.bd.r1, h.bd.w0, h.bd.w1, h.bd.g0, h.bd.g1, h.bd.o0, h.bd.o1, h.bd.n0, h.bd.n1, h.bd.y0, h.bd.y1, h.bd.a0, h.bd.a1, h.bd.k0, h.bd.k1, h.bd.b0, h.bd.b1, h.bd.s0, h.bd.s1, h.bd.p0, h.bd.p1, h.bd.q0, h.bd.q1⟩, h.tr (by omega), h.ho, h.ta, fun r' hr' => by cases hr'; exact closeF_ok (h.bo r hb) r1⟩
      split
      · exact hp.ends
      · exact hp.loses
  · exact h
/-! ### New; the law of tries, pure -/
def newOk (ho ta : List UInt8) (fr li tm tr wt : Int) : Bool := decide ((reqF ho ta fr).2 = 0 ∧ fr ≤ li ∧ li ≤ 1048576 ∧ 1 ≤ tm ∧ tm ≤ 1000 ∧ 1 ≤ wt ∧ wt ≤ 1000 ∧ 1 ≤ tr ∧ tr ≤ 16)
def newCl (ho ta : List UInt8) (fr li tm tr wt : Int) : Cl := ⟨ho, ta, fr, li, tm, tr, wt, 0, 0, fr, -1, 0, tr, wt, 0, 0, 0, [], none, 0, 0⟩
theorem okA_len {h t : List UInt8} (ho : okA h t = true) : h.length ≤ 64 ∧ t.length ≤ 64 := by
  unfold okA at ho
  simp only [Bool.and_eq_true] at ho
  exact ⟨(vis_len ho.1).2, (vis_len ho.2.1).2⟩
theorem req_ok {h t : List UInt8} {k : Int} (hq : (reqF h t k).2 = 0) : okA h t = true ∧ 0 ≤ k := by
  unfold reqF at hq
  split at hq
  · rename_i e
    simp only [Bool.and_eq_true, decide_eq_true_eq] at e
    exact e
  · cases hq
theorem req_some {h t : List UInt8} {k : Int} (ho : okA h t = true) (hk : 0 ≤ k) : (reqF h t k).1 ≠ [] := by
  unfold reqF
  rw [if_pos (by simp [ho, hk])]
  unfold reqL
  simp
theorem newOk_ok {ho ta : List UInt8} {fr li tm tr wt : Int} (h : newOk ho ta fr li tm tr wt = true) : (newCl ho ta fr li tm tr wt).Ok ∧ okA ho ta = true := by
  unfold newOk at h
  obtain ⟨h1, h2, h3, h4, h5, h6, h7, h8, h9⟩ := of_decide_eq_true h
  obtain ⟨a1, a2⟩ := req_ok h1
  obtain ⟨b1, b2⟩ := okA_len a1
  refine ⟨⟨?_, by simp [newCl], by simp [newCl], fun _ => h8, b1, b2, by simp [newCl], by simp [newCl], by simp [newCl]⟩, a1⟩
  unfold newCl
  constructor <;> simp only <;> omega
structure AtTry (f c : Cl) (i : Int) : Prop where
  ok : c.Ok
  st : c.state = 0
  ho : c.host = f.host
  ta : c.target = f.target
  tm : c.tmo = f.tmo
  tr : c.trs = f.trs
  fr : c.frm = f.frm
  got : c.got = f.frm
  tries : c.tries = f.trs - i
  now : c.now ≤ 70000 * i
  e0 : c.e = 0
def askF (c : Cl) (n : Int) : Cl := { c with state := 1, began := c.got, last := c.now, head := [], body := none, skip := 0, left := -1, now := n }
theorem AtTry.out {f c : Cl} {i : Int} (h : AtTry f c i) (ho : okA f.host f.target = true) : (outF c).1 = askF c c.now ∧ (outF c).2 ≠ [] := by
  unfold outF
  rw [if_pos h.st]
  refine ⟨rfl, ?_⟩
  rw [h.ho, h.ta]
  exact req_some ho (by rw [h.got, ← h.fr]; exact h.ok.bd.f0)
theorem ask_tick {c : Cl} {n : Int} (hn : 1 ≤ n) (h1 : c.now + n ≤ 1099511627776) (h0 : 0 ≤ c.now) (hlt : n < c.tmo) : tickF (askF c c.now) n = askF c (c.now + n) := by
  unfold tickF
  rw [if_neg (by omega)]
  have : tick1 (askF c c.now) n = askF c (c.now + n) := by
    unfold tick1 askF
    simp only
    congr 1
    omega
  rw [this]
  unfold tick2
  rw [if_neg (by simp [askF]), if_neg (by simp [askF]; omega)]
theorem AtTry.tick {f c : Cl} {i : Int} (h : AtTry f c i) (h0 : 0 ≤ i) (hi : i < f.trs) : ∃ m, tickF (outF c).1 (f.tmo - 1) = askF c m ∧ tickF (askF c m) 1 = losesF (askF c (c.now + c.tmo)) := by
  have hb := h.ok.bd
  have e1 : (outF c).1 = askF c c.now := by unfold outF; rw [if_pos h.st]; rfl
  have r1 := hb.r1
  rw [h.tr] at r1
  have hnow := h.now
  have t1 := hb.t1
  have t0 := hb.t0
  have n0 := hb.n0
  have htm := h.tm
  refine ⟨c.now + c.tmo - 1, ?_, ?_⟩
  · rw [e1]
    by_cases ht : c.tmo = 1
    · rw [← h.tm, ht]
      unfold tickF
      rw [if_pos (by omega)]
      congr 1; omega
    · rw [← h.tm, ask_tick (by omega) (by omega) n0 (by omega)]
      congr 1; omega
  · unfold tickF
    rw [if_neg (by omega)]
    have : tick1 (askF c (c.now + c.tmo - 1)) 1 = askF c (c.now + c.tmo) := by
      unfold tick1 askF
      simp only
      congr 1
      omega
    rw [this]
    unfold tick2
    rw [if_neg (by simp [askF]), if_pos (by simp [askF]; omega)]
theorem AtTry.lost {f c : Cl} {i : Int} (h : AtTry f c i) : lostF (outF c).1 = losesF (askF c c.now) := by
  have e1 : (outF c).1 = askF c c.now := by unfold outF; rw [if_pos h.st]; rfl
  rw [e1]
  unfold lostF
  rw [if_pos (show (askF c c.now).state = 1 from rfl)]
  rfl
theorem AtTry.next {f c : Cl} {i n : Int} (h : AtTry f c i) (h0 : 0 ≤ i) (hi : i < f.trs) (hn : c.now ≤ n) (hn2 : n ≤ c.now + 1000) :
    (i < f.trs - 1 → (losesF (askF c n)).state = 2 ∧ AtTry f (tickF (losesF (askF c n)) 64000) (i + 1)) ∧
    (i = f.trs - 1 → (tickF (losesF (askF c n)) 64000).state = 4 ∧ (tickF (losesF (askF c n)) 64000).e = 194 ∧ (tickF (losesF (askF c n)) 64000).got = f.frm) ∧ (tickF (losesF (askF c n)) 64000).Ok := by
  have hb := h.ok.bd
  have r1 := hb.r1
  rw [h.tr] at r1
  have hnow := h.now
  have hbd : (askF c n).Bd := by
    obtain ⟨f0, f1, l1, t0, t1, r0, r1, w0, w1, g0, g1, o0, o1, n0, n1, y0, y1, a0, a1, k0, k1, b0, b1, s0, s1, p0, p1, q0, q1⟩ := hb
    unfold askF
    constructor <;> first | assumption | (simp only; omega)
  have hpre : (askF c n).Pre := ⟨hbd, h.ok.tr (by have := h.st; omega), h.ok.ho, h.ok.ta, by simp [askF]⟩
  have hok := hpre.loses
  have hok2 := hok.tick 64000
  have a0 := hb.a0
  have a1 := hb.a1
  have n0 := hb.n0
  have e1 : lose1 (askF c n) = askF c n := by unfold lose1; rw [if_neg (by simp [askF])]
  have e2 : losesF (askF c n) = if c.tries - 1 = 0 then failsF { askF c n with tries := c.tries - 1 } 194 else { askF c n with tries := c.tries - 1, state := 2, wake := n + c.wait, wait := min (2 * c.wait) 64000 } := by
    unfold losesF lose2; rw [e1]; rfl
  have ht := h.tries
  refine ⟨fun hlt => ?_, fun heq => ?_, hok2⟩
  · rw [if_neg (by omega)] at e2
    rw [e2] at hok2 ⊢
    refine ⟨rfl, ?_⟩
    have e3 : tickF { askF c n with tries := c.tries - 1, state := 2, wake := n + c.wait, wait := min (2 * c.wait) 64000 } 64000 = { askF c (n + 64000) with tries := c.tries - 1, state := 0, wake := n + c.wait, wait := min (2 * c.wait) 64000 } := by
      unfold tickF
      rw [if_neg (by omega)]
      unfold tick2 tick1 askF
      simp only
      rw [if_pos (by simp; omega)]
      congr 1
      omega
    rw [e3] at hok2 ⊢
    exact ⟨hok2, rfl, h.ho, h.ta, h.tm, h.tr, h.fr, h.got, by show c.tries - 1 = _; omega, by show n + 64000 ≤ _; omega, h.e0⟩
  · rw [if_pos (by omega)] at e2
    rw [e2]
    unfold tickF
    rw [if_neg (by omega)]
    unfold tick2 tick1 failsF askF
    simp only
    rw [if_neg (by omega), if_neg (by omega)]
    exact ⟨rfl, rfl, h.got⟩
/-! ### What every call keeps: for the bounds -/
structure Cl.Ev (c : Cl) : Prop where
  e0 : c.e ≠ 0 ↔ c.state = 4
  done : c.state = 3 → c.got = c.total
theorem fails_ev (c : Cl) (k : Int) (hk : k ≠ 0) : (failsF c k).Ev ∧ (failsF c k).got = c.got := ⟨⟨by simp [failsF, hk], by simp [failsF]⟩, rfl⟩
theorem lose1_ev (c : Cl) : (lose1 c).got = c.got ∧ (lose1 c).e = c.e := by unfold lose1; split <;> exact ⟨rfl, rfl⟩
theorem loses_ev {c : Cl} (h : c.e = 0) : (losesF c).Ev ∧ (losesF c).got = c.got := by
  obtain ⟨h1, h2⟩ := lose1_ev c
  unfold losesF lose2
  split
  · exact ⟨(fails_ev _ 194 (by decide)).1, h1⟩
  · exact ⟨⟨by simp [h2, h], by simp⟩, h1⟩
theorem ends_ev {c : Cl} (h : c.e = 0) : (endsF c).Ev ∧ (endsF c).got = c.got := by
  have h1 : (ends1 c).got = c.got ∧ (ends1 c).e = c.e := by unfold ends1; split <;> exact ⟨rfl, rfl⟩
  obtain ⟨h1, h2⟩ := h1
  unfold endsF
  split
  · exact fails_ev _ 192 (by decide)
  split
  · rename_i hgt
    exact ⟨⟨by simp [h2, h], fun _ => hgt⟩, h1⟩
  · obtain ⟨a, b⟩ := loses_ev (c := ends1 c) (by rw [h2, h])
    exact ⟨a, by rw [b, h1]⟩
theorem tick_ev {c : Cl} (h : c.Ev) (n : Int) : (tickF c n).Ev ∧ (tickF c n).got = c.got ∧ (3 ≤ c.state → (tickF c n).state = c.state ∧ (tickF c n).e = c.e) := by
  unfold tickF
  split
  · exact ⟨h, rfl, fun _ => ⟨rfl, rfl⟩⟩
  · have e1 : (tick1 c n).state = c.state ∧ (tick1 c n).e = c.e ∧ (tick1 c n).got = c.got ∧ (tick1 c n).total = c.total := ⟨rfl, rfl, rfl, rfl⟩
    obtain ⟨e1, e2, e3, e4⟩ := e1
    have h0 : c.state ≠ 4 → c.e = 0 := fun hn => by
      by_cases hz : c.e = 0
      · exact hz
      · exact absurd (h.e0.1 hz) hn
    unfold tick2
    split
    · rename_i h2
      exact ⟨⟨by simp [e2, h0 (by omega)], by simp⟩, e3, fun h3 => by omega⟩
    split
    · rename_i h2
      obtain ⟨a, b⟩ := loses_ev (c := tick1 c n) (by rw [e2, h0 (by omega)])
      exact ⟨a, by rw [b, e3], fun h3 => by omega⟩
    · exact ⟨⟨by rw [e1, e2]; exact h.e0, by rw [e1, e3, e4]; exact h.done⟩, e3, fun _ => ⟨e1, e2⟩⟩
theorem Cl.Ev.zero {c : Cl} (h : c.Ev) (hn : c.state ≠ 4) : c.e = 0 := by
  by_cases hz : c.e = 0
  · exact hz
  · exact absurd (h.e0.1 hz) hn
theorem out_ev {c : Cl} (h : c.Ev) : (outF c).1.Ev ∧ (outF c).1.got = c.got ∧ (3 ≤ c.state → (outF c).1.state = c.state ∧ (outF c).1.e = c.e ∧ (outF c).2 = []) := by
  unfold outF
  split
  · rename_i h0
    exact ⟨⟨by simp [h.zero (by omega)], by simp⟩, rfl, fun h3 => by omega⟩
  · exact ⟨h, rfl, fun _ => ⟨rfl, rfl, rfl⟩⟩
theorem told_ev {c : Cl} (h : c.e = 0) (hs : c.state = 1) (s : List UInt8) : (toldF c s).1.got = c.got + (toldF c s).2.length ∧ (((toldF c s).1.state = 1 ∧ (toldF c s).1.e = 0) ∨ ((toldF c s).1.state = 4 ∧ (toldF c s).1.e ≠ 0)) := by
  unfold toldF told2 failsF
  split
  · exact ⟨by simp, .inr ⟨rfl, by simp⟩⟩
  split
  · exact ⟨by simp, .inr ⟨rfl, by simp⟩⟩
  · unfold told3
    refine ⟨?_, .inl ?_⟩
    · rfl
    · split <;> exact ⟨hs, h⟩
theorem in2_ev {c : Cl} (h : c.e = 0) (hs : c.state = 1) (r : BD.Rd) (s : List UInt8) : (in2 c r s).1.Ev ∧ (in2 c r s).1.got = c.got + (in2 c r s).2.length := by
  unfold in2
  split
  · obtain ⟨a1, a2⟩ := told_ev (c := { c with body := some (BD.writeF r s).1 }) h hs (BD.writeF r s).2.1
    unfold in3
    rcases a2 with ⟨b1, b2⟩ | ⟨b1, b2⟩
    · split
      · obtain ⟨d1, d2⟩ := ends_ev b2
        exact ⟨d1, by rw [d2]; exact a1⟩
      · exact ⟨⟨by simp [b1, b2], by rw [b1]; intro e; cases e⟩, a1⟩
    · rw [if_neg (by rw [b1]; intro e; exact absurd e.1 (by decide))]
      exact ⟨⟨by simp [b1, b2], by rw [b1]; intro e; cases e⟩, a1⟩
  · have := fails_ev { c with body := some (BD.writeF r s).1 } (formedF (BD.writeF r s).2.2) (by unfold formedF; split <;> decide)
    exact ⟨this.1, by rw [this.2]; simp⟩
theorem heads3_ev {c : Cl} (h : c.e = 0) (whole : Int) : (heads3 c whole).1.got = c.got ∧ ((heads3 c whole).2 = true → (heads3 c whole).1.e = 0) ∧ ((heads3 c whole).2 = false → (heads3 c whole).1.Ev) := by
  unfold heads3
  split
  · exact ⟨rfl, fun _ => h, fun e => by cases e⟩
  split
  · exact ⟨rfl, fun e => (by cases e), fun _ => (fails_ev c 193 (by decide)).1⟩
  split
  · exact ⟨rfl, fun e => (by cases e), fun _ => (fails_ev c 192 (by decide)).1⟩
  · exact ⟨rfl, fun _ => h, fun e => by cases e⟩
theorem headsF_ev {c : Cl} (h : c.e = 0) (x : Hd) : (headsF c x).1.got = c.got ∧ ((headsF c x).2 = true → (headsF c x).1.e = 0) ∧ ((headsF c x).2 = false → (headsF c x).1.Ev) := by
  unfold headsF
  split
  · obtain ⟨a, b⟩ := loses_ev h
    exact ⟨b, fun e => (by cases e), fun _ => a⟩
  split
  · exact ⟨rfl, fun e => (by cases e), fun _ => (fails_ev c 191 (by decide)).1⟩
  split
  · unfold heads2
    split
    · split
      · exact heads3_ev (by exact h) _
      · exact ⟨rfl, fun e => (by cases e), fun _ => (fails_ev _ 192 (by decide)).1⟩
    · exact heads3_ev (by exact h) _
  · exact ⟨rfl, fun e => (by cases e), fun _ => (fails_ev _ _ (by unfold formedF; split <;> decide)).1⟩
theorem in_ev {c : Cl} (hk : c.Ok) (h : c.Ev) (s : List UInt8) : (inF c s).1.Ev ∧ (inF c s).1.got = c.got + (inF c s).2.length ∧ (3 ≤ c.state → (inF c s).1.state = c.state ∧ (inF c s).1.e = c.e ∧ (inF c s).2 = []) := by
  unfold inF
  split
  · rename_i hs
    have hz := h.zero (by omega)
    obtain ⟨d, hd⟩ : ∃ d, (if s = [] then c else { c with last := c.now }) = d := ⟨_, rfl⟩
    have hdo : d.e = 0 ∧ d.state = 1 ∧ d.got = c.got ∧ d.body = c.body ∧ d.Pre := by
      rw [← hd]
      split
      · exact ⟨hz, hs, rfl, rfl, hk.pre hs⟩
      · exact ⟨hz, hs, rfl, rfl, ⟨⟨hk.bd.f0, hk.bd.f1, hk.bd.l1, hk.bd.t0, hk.bd.t1, hk.bd.r0, hk.bd.r1, hk.bd.w0, hk.bd.w1, hk.bd.g0, hk.bd.g1, hk.bd.o0, hk.bd.o1, hk.bd.n0, hk.bd.n1, hk.bd.y0, hk.bd.y1, hk.bd.a0, hk.bd.a1, hk.bd.k0, hk.bd.k1, hk.bd.b0, hk.bd.b1, hk.bd.n0, Int.le_refl _, hk.bd.p0, hk.bd.p1, hk.bd.q0, hk.bd.q1⟩, hk.tr (by omega), hk.ho, hk.ta, hk.bo⟩⟩
    rw [hd]
    obtain ⟨h1, h2, h3, h4, h5⟩ := hdo
    refine ⟨?_, ?_, fun h => by omega⟩ <;> unfold in1
    all_goals
      cases hb : d.body with
      | some r => first | exact (in2_ev h1 h2 r s).1 | (rw [← h3]; exact (in2_ev h1 h2 r s).2)
      | none =>
        simp only
        unfold in1n
        cases hq : parseF (d.head ++ s) with
        | fail e =>
          simp only
          split
          · first | exact ⟨by simp [h1, h2], by rw [show ({ d with head := d.head ++ s } : Cl).state = 1 from h2]; intro e; cases e⟩ | (simp; exact h3)
          · first | exact (fails_ev _ 192 (by decide)).1 | (simp [failsF]; exact h3)
        | on a b => first | exact ⟨by simp [h1, h2], by rw [show ({ d with head := d.head ++ s } : Cl).state = 1 from h2]; intro e; cases e⟩ | (simp; exact h3)
        | done x n =>
          simp only
          unfold in1h
          have hpre : ({ d with head := d.head ++ s } : Cl).Pre := ⟨⟨h5.bd.f0, h5.bd.f1, h5.bd.l1, h5.bd.t0, h5.bd.t1, h5.bd.r0, h5.bd.r1, h5.bd.w0, h5.bd.w1, h5.bd.g0, h5.bd.g1, h5.bd.o0, h5.bd.o1, h5.bd.n0, h5.bd.n1, h5.bd.y0, h5.bd.y1, h5.bd.a0, h5.bd.a1, h5.bd.k0, h5.bd.k1, h5.bd.b0, h5.bd.b1, h5.bd.s0, h5.bd.s1, h5.bd.p0, h5.bd.p1, h5.bd.q0, h5.bd.q1⟩, h5.tr, h5.ho, h5.ta, h5.bo⟩
          obtain ⟨q1, q2, q3⟩ := headsF_ev (c := { d with head := d.head ++ s }) h1 x
          have hh := headsF_ok (c := { d with head := d.head ++ s }) hpre h2 x
          by_cases e : (headsF { d with head := d.head ++ s } x).2 = true
          · rw [if_pos e]
            obtain ⟨b1, b2, r, b3, _⟩ := hh.1 e
            rw [b3]
            first
              | exact (in2_ev (q2 e) b2 r _).1
              | (rw [(in2_ev (q2 e) b2 r _).2, q1]; show d.got + _ = _; rw [h3])
          · rw [if_neg e]
            first
              | exact q3 (by simpa using e)
              | (rw [q1]; simp; exact h3)
  · exact ⟨h, by simp, fun _ => ⟨rfl, rfl, rfl⟩⟩
theorem lost_ev {c : Cl} (hk : c.Ok) (h : c.Ev) : (lostF c).Ev ∧ (lostF c).got = c.got ∧ (3 ≤ c.state → (lostF c).state = c.state ∧ (lostF c).e = c.e) := by
  unfold lostF
  split
  · rename_i hs
    have hz := h.zero (by omega)
    cases hb : c.body with
    | none =>
      obtain ⟨a, b⟩ := loses_ev hz
      exact ⟨a, b, fun h => by omega⟩
    | some r =>
      simp only
      split
      · obtain ⟨a, b⟩ := ends_ev (c := { c with body := some (BD.closeF r).1 }) hz
        exact ⟨a, b, fun h => by omega⟩
      · obtain ⟨a, b⟩ := loses_ev (c := { c with body := some (BD.closeF r).1 }) hz
        exact ⟨a, b, fun h => by omega⟩
  · exact ⟨h, rfl, fun _ => ⟨rfl, rfl⟩⟩
end CL
end
section
namespace CL
set_option maxHeartbeats 8000000
set_option maxRecDepth 100000
/-! ### What a server tells: heads, pure -/
theorem laid_line {s : List UInt8} {h : Hd} (H : LaidH s h) (l n v : List UInt8) (hno : ∀ c ∈ l, c ≠ 13) (hl : l ≠ []) (hlen : l.length ≤ 200) (hm : s.length + l.length + 4 ≤ 2046) (hf : h.ns.length < 32)
    (hfd : ∀ m, fieldF l h m = .on ⟨h.st, h.ns ++ [n], h.vs ++ [v]⟩ m) : LaidH (s ++ (l ++ [13, 10])) ⟨h.st, h.ns ++ [n], h.vs ++ [v]⟩ := by
  obtain ⟨h1, h2, h3, h4⟩ := H
  refine ⟨h1, by simp; omega, by simp; omega, fun t => ?_⟩
  have e : s ++ (l ++ [13, 10]) ++ t = s ++ (l ++ 13 :: 10 :: t) := by simp
  rw [e, h4]
  have hc := crlf_line l t hno
  have hdr : (s ++ (l ++ 13 :: 10 :: t)).drop s.length = l ++ 13 :: 10 :: t := by simp
  have hpos : l.length ≠ 0 := by intro e; exact hl (List.eq_nil_of_length_eq_zero e)
  have htn : turnF (s ++ (l ++ 13 :: 10 :: t)) h s.length = .on ⟨h.st, h.ns ++ [n], h.vs ++ [v]⟩ (s.length + l.length + 2) := by
    unfold turnF
    rw [hdr, hc]
    simp only
    rw [if_neg (by omega), if_neg h1, if_neg hpos]
    have : (l ++ 13 :: 10 :: t).take l.length = l := by simp
    rw [this, hfd]
  have hfu : 2999 - h.ns.length = (2999 - (h.ns ++ [n]).length) + 1 := by simp; omega
  rw [hfu, runF_succ, htn]
  simp only
  congr 1
  simp; omega
theorem dropWhile_id {p : UInt8 → Bool} (l : List UInt8) (h : ∀ c, l.head? = some c → p c = false) : l.dropWhile p = l := by
  cases l with
  | nil => rfl
  | cons c l => simp [List.dropWhile, h c rfl]
theorem trimF_id (v : List UInt8) (h1 : ∀ c, v.head? = some c → [(32 : UInt8), 9].contains c = false) (h2 : ∀ c, v.getLast? = some c → [(32 : UInt8), 9].contains c = false) : trimF v = v := by
  unfold trimF Lib.trimS Lib.trimRightS Lib.trimLeftS
  rw [dropWhile_id v.reverse (by simpa using h2), List.reverse_reverse, dropWhile_id v h1]
theorem nameL_cap (n r : List UInt8) (h : ∀ c ∈ n, c ≠ 58) : nameL (n ++ 58 :: r) = n := by
  induction n with
  | nil => rfl
  | cons c n ih =>
    unfold nameL at ih ⊢
    rw [List.cons_append, List.takeWhile_cons, if_pos (by simp [h c (by simp)]), ih fun x hx => h x (by simp [hx])]
theorem fieldF_cap (n v : List UInt8) (h : Hd) (m : Nat) (h58 : ∀ c ∈ n, c ≠ 58) (ht : tokB n = true) (htr : trimF v = v) (hv : textB v = true) (hf : h.ns.length < 32) :
    fieldF (n ++ 58 :: 32 :: v) h m = .on ⟨h.st, h.ns ++ [lowL n], h.vs ++ [v]⟩ m := by
  have en := nameL_cap n (32 :: v) h58
  have hd : (n ++ 58 :: 32 :: v).drop (n.length + 1) = 32 :: v := by
    rw [List.drop_append, List.drop_of_length_le (by omega), List.nil_append, Nat.add_sub_cancel_left]; rfl
  have htx : textB (32 :: v) = true := by
    simp only [textB, List.all_cons, Bool.and_eq_true] at hv ⊢
    exact ⟨by decide, hv⟩
  have htt : trimF (32 :: v) = v := by
    have := trimF_laid v [32] [] htr (by decide) (by decide)
    simpa using this
  unfold fieldF
  rw [en, hd, ht, htx, htt]
  rw [if_neg (by simp), if_neg (by omega)]
/-! ### decimal digits -/
theorem dd_dig (n : Nat) : ∀ c ∈ Lib.decDigits n, 48 ≤ c.toNat ∧ c.toNat ≤ 57 := by
  induction n using Nat.strongRecOn with
  | _ n ih =>
    intro c hc
    rw [Lib.decDigits] at hc
    have one : ∀ d : Nat, d < 10 → 48 ≤ (UInt8.ofNat (48 + d)).toNat ∧ (UInt8.ofNat (48 + d)).toNat ≤ 57 := by intro d hd; rw [digit_nat d hd]; omega
    by_cases h : n < 10
    · rw [dif_pos h] at hc
      have : c = UInt8.ofNat (48 + n) := by simpa using hc
      rw [this]; exact one n h
    · rw [dif_neg h] at hc
      rcases List.mem_append.1 hc with hc | hc
      · exact ih (n / 10) (by omega) c hc
      · have : c = UInt8.ofNat (48 + n % 10) := by simpa using hc
        rw [this]; exact one (n % 10) (by omega)
theorem dd_ne (n : Nat) : Lib.decDigits n ≠ [] := by
  rw [Lib.decDigits]; split <;> simp
theorem dd_digs (n : Nat) : BD.digs (Lib.decDigits n) = n := by
  induction n using Nat.strongRecOn with
  | _ n ih =>
    rw [Lib.decDigits]
    by_cases h : n < 10
    · rw [dif_pos h]
      have := digit_nat n h
      simp only [BD.digs, List.foldl_cons, List.foldl_nil]
      omega
    · rw [dif_neg h, BD.digs_snoc, ih (n / 10) (by omega), digit_nat (n % 10) (by omega)]
      omega
theorem dd_length (n : Nat) (h : n < 1000000000) : (Lib.decDigits n).length ≤ 9 := dec_len n 9 (by simpa using h) (by omega)
theorem dd_lengthF (n : Nat) (h : n < 1000000000) : BD.lengthF (Lib.decDigits n) = n := by
  unfold BD.lengthF
  rw [if_neg (by have := dd_length n h; have := dd_ne n; simp [this]; omega), if_pos (by
    rw [List.all_eq_true]
    intro c hc
    unfold BD.isDig
    exact decide_eq_true (dd_dig n c hc)), dd_digs]
theorem dd_not (n k : Nat) (hk : k < 48 ∨ 57 < k) (h256 : k < 256) : ∀ c ∈ Lib.decDigits n, c ≠ UInt8.ofNat k := by
  intro c hc e
  have := dd_dig n c hc
  rw [e] at this
  rw [UInt8.toNat_ofNat'] at this
  omega
theorem dig_text (c : UInt8) (h : 48 ≤ c.toNat ∧ c.toNat ≤ 57) : textC c = true := by
  unfold textC
  simp only [Bool.or_eq_true, Bool.and_eq_true, decide_eq_true_eq, beq_iff_eq, Bool.not_eq_true', beq_eq_false_iff_ne]
  right; omega
theorem dd_text (n : Nat) : textB (Lib.decDigits n) = true := by
  unfold textB; rw [List.all_eq_true]; exact fun c hc => dig_text c (dd_dig n c hc)
theorem dig_blank (c : UInt8) (h : 48 ≤ c.toNat ∧ c.toNat ≤ 57) : [(32 : UInt8), 9].contains c = false := by
  have h1 : c ≠ 32 := by rintro rfl; have := h.1; revert this; decide
  have h2 : c ≠ 9 := by rintro rfl; have := h.1; revert this; decide
  simp [h1, h2]
theorem dd_trim (n : Nat) : trimF (Lib.decDigits n) = Lib.decDigits n :=
  trimF_id _ (fun c hc => dig_blank c (dd_dig n c (List.mem_of_head? hc))) (fun c hc => dig_blank c (dd_dig n c (List.mem_of_getLast? hc)))
theorem cut_byte (a r : List UInt8) (c : UInt8) (h : ∀ x ∈ a, x ≠ c) : Lib.cut (a ++ c :: r) [c] = (a, r, true) := by
  have hi : Lib.index (a ++ c :: r) [c] = a.length := by
    refine Lib.index_first (by simp) ?_ fun j hj => ?_
    · unfold Lib.occAt; simp [List.isPrefixOf]
    · unfold Lib.occAt
      have := h a[j] (List.getElem_mem _)
      have hb : (c == a[j]) = false := by simpa using fun e : c = a[j] => this e.symm
      rw [List.drop_append_of_le_length (by omega), List.drop_eq_getElem_cons hj]
      show (c == a[j] && _) = false
      rw [hb]; rfl
  unfold Lib.cut
  rw [hi, if_pos (by omega)]
  simp
def spanL (f t a : Nat) : List UInt8 := bytesL ++ (Lib.decDigits f ++ 45 :: (Lib.decDigits t ++ 47 :: Lib.decDigits a))
theorem spanF_spanL (f t a : Nat) (h1 : f ≤ t) (h2 : t < a) (h3 : a < 1000000000) : spanF (spanL f t a) = ⟨f, t, a, true⟩ := by
  have hp : Lib.hasPrefix (spanL f t a) bytesL = true := by unfold Lib.hasPrefix spanL; simp
  have ht : Lib.trimPrefix (spanL f t a) bytesL = Lib.decDigits f ++ 45 :: (Lib.decDigits t ++ 47 :: Lib.decDigits a) := by
    unfold Lib.trimPrefix
    rw [if_pos hp]
    unfold spanL; simp
  have c1 := cut_byte (Lib.decDigits f) (Lib.decDigits t ++ 47 :: Lib.decDigits a) 45 (dd_not f 45 (by omega) (by omega))
  have c2 := cut_byte (Lib.decDigits t) (Lib.decDigits a) 47 (dd_not t 47 (by omega) (by omega))
  unfold spanF
  rw [ht, hp, c1]
  dsimp only
  rw [c2]
  dsimp only
  rw [dd_lengthF f (by omega), dd_lengthF t (by omega), dd_lengthF a h3]
  have e1 : decide ((0 : Int) ≤ f) = true := decide_eq_true (by omega)
  have e2 : decide ((f : Int) ≤ t) = true := decide_eq_true (by omega)
  have e3 : decide ((t : Int) < a) = true := decide_eq_true (by omega)
  rw [e1, e2, e3]
  rfl
theorem spanL_text (f t a : Nat) : textB (spanL f t a) = true := by
  unfold spanL
  have d1 := dd_text f
  have d2 := dd_text t
  have d3 := dd_text a
  unfold textB at *
  simp only [List.all_append, List.all_cons, Bool.and_eq_true]
  exact ⟨by decide, d1, by decide, d2, by decide, d3⟩
theorem spanL_trim (f t a : Nat) : trimF (spanL f t a) = spanL f t a := by
  refine trimF_id _ (fun c hc => ?_) fun c hc => ?_
  · have : c = 98 := by unfold spanL bytesL at hc; simpa using hc.symm
    subst this; decide
  · unfold spanL at hc
    have hne := dd_ne a
    have h1 : (Lib.decDigits a).getLast? = some c := by
      rw [List.getLast?_append, List.getLast?_append] at hc
      cases hq : (Lib.decDigits a).getLast? with
      | none => exact absurd (List.getLast?_eq_none_iff.1 hq) hne
      | some z =>
        have hz : (47 :: Lib.decDigits a).getLast? = some z := by rw [List.getLast?_cons]; simp [hq]
        rw [List.getLast?_cons, List.getLast?_append, hz] at hc
        simpa using hc
    exact dig_blank c (dd_dig a c (List.mem_of_getLast? h1))
/-! ### the five heads -/
def l200 : List UInt8 := [72, 84, 84, 80, 47, 49, 46, 49, 32, 50, 48, 48, 32, 79, 75]
def l206 : List UInt8 := [72, 84, 84, 80, 47, 49, 46, 49, 32, 50, 48, 54, 32, 80, 97, 114, 116, 105, 97, 108, 32, 67, 111, 110, 116, 101, 110, 116]
def l503 : List UInt8 := [72, 84, 84, 80, 47, 49, 46, 49, 32, 53, 48, 51, 32, 66, 117, 115, 121]
def nCL : List UInt8 := [67, 111, 110, 116, 101, 110, 116, 45, 76, 101, 110, 103, 116, 104]
def nCR : List UInt8 := [67, 111, 110, 116, 101, 110, 116, 45, 82, 97, 110, 103, 101]
def nTE : List UInt8 := [84, 114, 97, 110, 115, 102, 101, 114, 45, 69, 110, 99, 111, 100, 105, 110, 103]
def nl : List UInt8 := [13, 10]
theorem laid_st (l : List UInt8) (n : Nat) (hno : ∀ c ∈ l, c ≠ 13) (hst : statF l = n) (hn : n ≠ 0) (hl : l.length ≤ 100) : LaidH (l ++ nl) ⟨n, [], []⟩ := by
  refine ⟨hn, by simp [nl]; omega, by simp, fun t => ?_⟩
  have e : l ++ nl ++ t = l ++ 13 :: 10 :: t := by simp [nl]
  have hc := crlf_line l t hno
  have ht : turnF (l ++ 13 :: 10 :: t) zeroH 0 = .on ⟨n, [], []⟩ (0 + l.length + 2) := by
    unfold turnF
    rw [List.drop_zero, hc]
    simp only
    have : (l ++ 13 :: 10 :: t).take l.length = l := by simp
    rw [this, hst, if_neg (by omega), if_pos (show zeroH.st = 0 from rfl), if_neg hn]
    rfl
  rw [e]
  unfold parseF
  rw [show (3000 : Nat) = 2999 + 1 from rfl, runF_succ, ht]
  simp only
  congr 1
  simp [nl]
theorem laid_200 : LaidH (l200 ++ nl) ⟨200, [], []⟩ := laid_st l200 200 (by decide) (by decide) (by decide) (by decide)
theorem laid_206 : LaidH (l206 ++ nl) ⟨206, [], []⟩ := laid_st l206 206 (by decide) (by decide) (by decide) (by decide)
theorem laid_503 : LaidH (l503 ++ nl) ⟨503, [], []⟩ := laid_st l503 503 (by decide) (by decide) (by decide) (by decide)
def fldL (n v : List UInt8) : List UInt8 := n ++ 58 :: 32 :: v
theorem laid_fld {s : List UInt8} {h : Hd} (H : LaidH s h) (n v : List UInt8) (h58 : ∀ c ∈ n, c ≠ 58) (h13 : ∀ c ∈ n, c ≠ 13) (ht : tokB n = true) (htr : trimF v = v) (hv : textB v = true) (hf : h.ns.length < 32) (hl : n.length + v.length ≤ 150) (hs : s.length ≤ 1500) :
    LaidH (s ++ (fldL n v ++ nl)) ⟨h.st, h.ns ++ [lowL n], h.vs ++ [v]⟩ := by
  refine laid_line H (fldL n v) (lowL n) v ?_ (by simp [fldL]) (by simp [fldL]; omega) (by simp [fldL]; omega) hf fun m => fieldF_cap n v h m h58 ht htr hv hf
  intro c hc
  simp only [fldL, List.mem_append, List.mem_cons] at hc
  rcases hc with hc | rfl | rfl | hc
  · exact h13 c hc
  · decide
  · decide
  · simp only [textB, List.all_eq_true] at hv
    exact textC_13 c (hv c hc)
def wholeH (n : Nat) : List UInt8 := l200 ++ nl ++ (fldL nCL (Lib.decDigits n) ++ nl) ++ nl
def partH (g n : Nat) : List UInt8 := l206 ++ nl ++ (fldL nCR (spanL g (n - 1) n) ++ nl) ++ (fldL nCL (Lib.decDigits (n - g)) ++ nl) ++ nl
def chunkH : List UInt8 := l200 ++ nl ++ (fldL nTE BD.chunked ++ nl) ++ nl
def openH : List UInt8 := l200 ++ nl ++ nl
def busyH : List UInt8 := l503 ++ nl ++ nl
theorem laid_end {s : List UInt8} {h : Hd} (H : LaidH s h) (t : List UInt8) : parseF (s ++ nl ++ t) = .done h (s ++ nl).length := by
  have := H.done t
  have e : s ++ nl ++ t = s ++ 13 :: 10 :: t := by simp [nl]
  rw [e, this]; simp [nl]
theorem whole_parse (n : Nat) (h : n < 1000000000) (t : List UInt8) : parseF (wholeH n ++ t) = .done ⟨200, [BD.clName], [Lib.decDigits n]⟩ (wholeH n).length :=
  laid_end (laid_fld laid_200 nCL (Lib.decDigits n) (by decide) (by decide) (by decide) (dd_trim n) (dd_text n) (by decide) (by have := dd_length n h; simp [nCL]; omega) (by decide)) t
theorem part_parse (g n : Nat) (hg : g < n) (h : n < 1000000000) (t : List UInt8) : parseF (partH g n ++ t) = .done ⟨206, [crName, BD.clName], [spanL g (n - 1) n, Lib.decDigits (n - g)]⟩ (partH g n).length := by
  have hl : (spanL g (n - 1) n).length ≤ 40 := by
    have := dd_length g (by omega)
    have := dd_length (n - 1) (by omega)
    have := dd_length n h
    simp [spanL, bytesL]; omega
  have h1 := laid_fld laid_206 nCR (spanL g (n - 1) n) (by decide) (by decide) (by decide) (spanL_trim _ _ _) (spanL_text _ _ _) (by simp) (by simp [nCR]; omega) (by decide)
  have hl2 : (l206 ++ nl ++ (fldL nCR (spanL g (n - 1) n) ++ nl)).length ≤ 200 := by simp [l206, nl, fldL, nCR]; omega
  have h2 := laid_fld h1 nCL (Lib.decDigits (n - g)) (by decide) (by decide) (by decide) (dd_trim _) (dd_text _) (by simp) (by have := dd_length (n - g) (by omega); simp [nCL]; omega) (by omega)
  exact laid_end h2 t
theorem chunk_parse (t : List UInt8) : parseF (chunkH ++ t) = .done ⟨200, [BD.teName], [BD.chunked]⟩ chunkH.length :=
  laid_end (laid_fld laid_200 nTE BD.chunked (by decide) (by decide) (by decide) (by decide) (by decide) (by decide) (by decide) (by decide)) t
theorem open_parse (t : List UInt8) : parseF (openH ++ t) = .done ⟨200, [], []⟩ openH.length := laid_end laid_200 t
theorem busy_parse (t : List UInt8) : parseF (busyH ++ t) = .done ⟨503, [], []⟩ busyH.length := laid_end laid_503 t
/-! ### the bodies' readers -/
def rdSz (n : Nat) : BD.Rd := { BD.rdNil with state := if (n : Int) = 0 then 11 else 0, size := n, left := n }
theorem newF_whole (n : Nat) (h : n ≤ 1048576) : BD.newF 200 [BD.clName] [Lib.decDigits n] = (some (rdSz n), 0) := by
  have hd := dd_lengthF n (by omega)
  have h1 : BD.getF [BD.clName] [Lib.decDigits n] BD.teName = ([], 0) := by rfl
  have h2 : BD.getF [BD.clName] [Lib.decDigits n] BD.clName = (Lib.decDigits n, 1) := by rfl
  unfold BD.newF
  rw [h1, h2, hd, if_neg (by decide), if_neg (by simp), if_pos (by simp), if_neg (by simp), if_neg (by simp; omega)]
  rfl
theorem newF_part (v : List UInt8) (n : Nat) (h : n ≤ 1048576) : BD.newF 206 [crName, BD.clName] [v, Lib.decDigits n] = (some (rdSz n), 0) := by
  have hd := dd_lengthF n (by omega)
  have h1 : BD.getF [crName, BD.clName] [v, Lib.decDigits n] BD.teName = ([], 0) := by rfl
  have h2 : BD.getF [crName, BD.clName] [v, Lib.decDigits n] BD.clName = (Lib.decDigits n, 1) := by rfl
  unfold BD.newF
  rw [h1, h2, hd, if_neg (by decide), if_neg (by simp), if_pos (by simp), if_neg (by simp), if_neg (by simp; omega)]
  rfl
theorem newF_chunk : BD.newF 200 [BD.teName] [BD.chunked] = (some BD.rdC, 0) := by rfl
theorem newF_open : BD.newF 200 [] [] = (some BD.rdO, 0) := by rfl
/-! ### A response that comes in pieces, pure -/
structure Srv (A : List UInt8) (g : Nat) (H B : List UInt8) (x : Hd) (R0 : BD.Rd) (D : List UInt8) (sk : Nat) (lf : Int) : Prop where
  hp : ∀ t, parseF (H ++ t) = .done x H.length
  ga : g ≤ A.length
  ok : R0.Ok
  e0 : R0.e = 0
  dd : D.drop sk = A.drop g
  dl : D.length = sk + (A.length - g)
  lf0 : lf = -1 ∨ lf = (A.length : Int) - g
  fd : ∃ rE, BD.feeds R0 B = (rE, D, 0)
/-- What a head does to a client that asked from g on. -/
def HeadsAs (A : List UInt8) (g : Nat) (x : Hd) (R0 : BD.Rd) (sk : Nat) (lf : Int) (bz : Bool) : Prop := ∀ c : Cl, c.state = 1 → c.got = g → c.skip = 0 → c.left = -1 → (c.total = -1 ∨ c.total = A.length) →
  (∃ d : Cl, headsF c x = (failsF d 193, false) ∧ d.got = c.got ∧ d.total = c.total ∧ d.limit = c.limit ∧ c.limit < A.length) ∨
  (bz = true ∧ headsF c x = (losesF c, false)) ∨
  ∃ tt : Int, headsF c x = ({ c with body := some R0, skip := sk, left := lf, total := tt }, true) ∧ (tt = -1 ∨ tt = A.length)
/-- Behind the connection. -/
def Over (A : List UInt8) (bz : Bool) (c : Cl) : Prop :=
  (c.state = 3 ∧ c.got = A.length ∧ c.total = A.length) ∨ (c.state = 4 ∧ c.e = 193 ∧ c.limit < A.length ∧ (c.total = -1 ∨ c.total = A.length)) ∨
  (bz = true ∧ (c.state = 2 ∨ (c.state = 4 ∧ c.e = 194)) ∧ (c.total = -1 ∨ c.total = A.length))
structure Body (A : List UInt8) (g : Nat) (B : List UInt8) (R0 : BD.Rd) (sk : Nat) (lf : Int) (k : Nat) (told : List UInt8) (c : Cl) (r : BD.Rd) (o : List UInt8) : Prop where
  kb : k ≤ B.length
  fd : BD.feeds R0 (B.take k) = (r, o, 0)
  st : c.state = 1
  skp : c.skip = ((sk - min sk o.length : Nat) : Int)
  tl : told = o.drop sk
  got : c.got = (g : Int) + told.length
  lfp : c.left = if lf < 0 then -1 else lf - told.length
  tt : c.total = -1 ∨ c.total = A.length
def AtP (A : List UInt8) (g : Nat) (H B : List UInt8) (R0 : BD.Rd) (sk : Nat) (lf : Int) (bz : Bool) (q told : List UInt8) (c : Cl) : Prop :=
  c.got = (g : Int) + told.length ∧ told = (A.drop g).take told.length ∧ g + told.length ≤ A.length ∧
  ((c.state = 1 ∧ c.began = g ∧ c.skip = 0 ∧ c.left = -1 ∧ c.body = none ∧ c.head = q ∧ q.length < H.length ∧ told = [] ∧ (c.total = -1 ∨ c.total = A.length)) ∨
   (c.began = g ∧ ∃ k r o, q = H ++ B.take k ∧ Body A g B R0 sk lf k told c r o ∧ c.body = some r ∧ r.state ≠ 11) ∨
   Over A bz c)
section
variable {A : List UInt8} {g : Nat} {H B : List UInt8} {x : Hd} {R0 : BD.Rd} {D : List UInt8} {sk : Nat} {lf : Int}
theorem Srv.pre (S : Srv A g H B x R0 D sk lf) {k : Nat} {r : BD.Rd} {o : List UInt8} (h : BD.feeds R0 (B.take k) = (r, o, 0)) : ∃ o2, D = o ++ o2 ∧ ∃ rE, BD.feeds r (B.drop k) = (rE, o2, 0) := by
  obtain ⟨rE, hE⟩ := S.fd
  have h1 := BD.feeds_append (B.take k) R0 (B.drop k)
  rw [List.take_append_drop, h, hE] at h1
  simp only [if_true] at h1
  obtain ⟨r2, o2, e2, h2⟩ : ∃ r2 o2 e2, BD.feeds r (B.drop k) = (r2, o2, e2) := ⟨_, _, _, rfl⟩
  rw [h2] at h1
  simp only at h1
  by_cases he : e2 = 0
  · rw [if_pos he] at h1
    have := congrArg (fun z => z.2.1) h1
    simp only at this
    exact ⟨o2, this, r2, by rw [h2, he]⟩
  · rw [if_neg he] at h1
    have := congrArg (fun z => z.2.2) h1
    simp only at this
    exact absurd this.symm he
theorem Srv.next (S : Srv A g H B x R0 D sk lf) {k : Nat} {r : BD.Rd} {o : List UInt8} (h : BD.feeds R0 (B.take k) = (r, o, 0)) (p : List UInt8) (hp : B.take k ++ p = B.take (k + p.length)) :
    ∃ r2 o2, BD.feeds r p = (r2, o2, 0) ∧ BD.feeds R0 (B.take (k + p.length)) = (r2, o ++ o2, 0) := by
  obtain ⟨rE, hE⟩ := S.fd
  have h1 := BD.feeds_append (B.take (k + p.length)) R0 (B.drop (k + p.length))
  rw [List.take_append_drop, hE] at h1
  by_cases he : (BD.feeds R0 (B.take (k + p.length))).2.2 = 0
  · obtain ⟨r2, o2, e2, h2⟩ : ∃ r2 o2 e2, BD.feeds r p = (r2, o2, e2) := ⟨_, _, _, rfl⟩
    have h3 := BD.feeds_go h h2
    rw [hp] at h3
    rw [h3] at he
    simp only at he
    subst he
    exact ⟨r2, o2, h2, by rw [h3]; simp⟩
  · rw [if_neg he] at h1
    have := congrArg (fun z => z.2.2) h1
    simp only at this
    exact absurd this.symm he
theorem Srv.told (S : Srv A g H B x R0 D sk lf) {k : Nat} {r : BD.Rd} {o : List UInt8} (h : BD.feeds R0 (B.take k) = (r, o, 0)) : o.drop sk = (A.drop g).take (o.drop sk).length ∧ g + (o.drop sk).length ≤ A.length := by
  obtain ⟨o2, hD, _⟩ := S.pre h
  have h1 := S.dd
  have hl := congrArg List.length hD
  have h2 := S.dl
  have h3 := S.ga
  simp only [List.length_append] at hl
  refine ⟨?_, by simp only [List.length_drop]; omega⟩
  rw [← h1, hD, List.drop_append, List.take_left' rfl]
theorem Srv.full (S : Srv A g H B x R0 D sk lf) {k : Nat} {r : BD.Rd} {o : List UInt8} (h : BD.feeds R0 (B.take k) = (r, o, 0)) (h11 : r.state = 11) : o = D := by
  obtain ⟨o2, hD, rE, hE⟩ := S.pre h
  rw [BD.feeds_done _ r h11] at hE
  have := congrArg (fun z => z.2.1) hE
  simp only at this
  rw [hD, ← this]; simp
set_option maxHeartbeats 1000000 in
theorem body_step (S : Srv A g H B x R0 D sk lf) {k : Nat} {told : List UInt8} {c : Cl} {r : BD.Rd} {o : List UInt8} (b : Body A g B R0 sk lf k told c r o) (hbg : c.began = g) (bz : Bool) (p : List UInt8)
    (hp : B.take k ++ p = B.take (k + p.length)) (hk : k + p.length ≤ B.length) : AtP A g H B R0 sk lf bz (H ++ B.take (k + p.length)) (told ++ (in2 c r p).2) (in2 c r p).1 := by
  obtain ⟨r2, o2, h2, h3⟩ := S.next b.fd p hp
  have hre : r.e = 0 := by rw [(BD.feeds_e b.fd).1]; exact S.e0
  have hr2e : r2.e = 0 := by rw [(BD.feeds_e h2).1]; exact hre
  obtain ⟨t1, t2⟩ := S.told h3
  have ga := S.ga
  have e1 : (o ++ o2).drop sk = told ++ o2.drop (sk - o.length) := by rw [List.drop_append, b.tl]
  rw [e1] at t1 t2
  obtain ⟨t0a, t0b⟩ := S.told b.fd
  rw [← b.tl] at t0a t0b
  obtain ⟨t, ht⟩ : ∃ t, o2.drop (sk - o.length) = t := ⟨_, rfl⟩
  rw [ht] at e1 t1 t2
  have hin : in2 c r p = in3 { c with body := some r2 } o2 (BD.doneF r2) := by
    unfold in2
    rw [BD.write_ok hre h2]
    simp
  rw [hin]
  have hsk := b.skp
  have hm : min c.skip (o2.length : Int) = ((min (sk - o.length) o2.length : Nat) : Int) := by rw [hsk]; omega
  have hdrop : o2.drop (min c.skip (o2.length : Int)).toNat = t := by
    rw [hm, Int.toNat_natCast, ← ht]
    by_cases hle : sk - o.length ≤ o2.length
    · rw [Nat.min_eq_left hle]
    · rw [Nat.min_eq_right (by omega), List.drop_of_length_le (Nat.le_refl _), List.drop_of_length_le (by omega)]
  have hgot := b.got
  have hlf := b.lfp
  have htt := b.tt
  have hlf0 := S.lf0
  rw [List.length_append] at t2
  obtain ⟨d, hd⟩ : ∃ d : Cl, ({ c with body := some r2, skip := c.skip - min c.skip (o2.length : Int) } : Cl) = d := ⟨_, rfl⟩
  have htoldF : toldF { c with body := some r2 } o2 = told2 d t := by
    unfold toldF
    simp only
    rw [hdrop, hd]
  have f1 : d.limit = c.limit ∧ d.got = c.got ∧ d.left = c.left ∧ d.total = c.total ∧ d.state = 1 ∧ d.began = g ∧ d.body = some r2 ∧ d.skip = c.skip - min c.skip (o2.length : Int) := by
    rw [← hd]; exact ⟨rfl, rfl, rfl, rfl, b.st, hbg, rfl, rfl⟩
  obtain ⟨f1, f2, f3, f4, f5, f6, f7, f8⟩ := f1
  clear hd
  unfold in3
  rw [htoldF]
  by_cases hlim : d.limit < d.got + t.length
  · have ht2 : told2 d t = (failsF d 193, []) := by unfold told2; rw [if_pos hlim]
    rw [ht2, if_neg (by simp [failsF])]
    refine ⟨by simp only [List.append_nil]; show d.got = _; rw [f2, hgot], by simpa using t0a, by simpa using t0b, .inr (.inr (.inr (.inl ⟨rfl, rfl, ?_, ?_⟩)))⟩
    · show d.limit < _
      omega
    · show d.total = -1 ∨ d.total = _; rw [f4]; exact htt
  · have hno : ¬ ((0 ≤ d.left ∧ d.left < t.length) ∨ (0 ≤ d.total ∧ d.total < d.got + t.length)) := by
      rw [f3, f4, f2, hgot]
      rintro (⟨a1, a2⟩ | ⟨a1, a2⟩)
      · rw [hlf] at a1 a2
        split at a1
        · omega
        · rename_i hl
          rw [if_neg hl] at a2
          omega
      · omega
    have ht2 : told2 d t = (told3 d t, t) := by unfold told2; rw [if_neg hlim, if_neg hno]
    rw [ht2]
    have g1 : (told3 d t).got = (g : Int) + (told ++ t).length := by
      rw [List.length_append]
      have : (told3 d t).got = d.got + t.length := rfl
      rw [this, f2, hgot]; omega
    have g2 : (told3 d t).state = 1 ∧ (told3 d t).began = g ∧ (told3 d t).body = some r2 ∧ (told3 d t).skip = d.skip ∧ (told3 d t).total = d.total := by
      unfold told3; split <;> exact ⟨f5, f6, f7, rfl, rfl⟩
    obtain ⟨g2, g3, g4, g5, g6⟩ := g2
    have g7 : (told3 d t).left = if lf < 0 then -1 else lf - (told ++ t).length := by
      have hdl : d.left = if lf < 0 then -1 else lf - told.length := f3.trans hlf
      show (if 0 ≤ d.left then ({ d with left := d.left - t.length } : Cl) else d).left = _
      rw [List.length_append]
      by_cases hl : lf < 0
      · rw [if_pos hl] at hdl
        rw [if_pos hl, if_neg (by omega)]; exact hdl
      · rw [if_neg hl] at hdl
        rw [if_neg hl, if_pos (by omega)]
        simp only
        omega
    have g8 : (told3 d t).skip = ((sk - min sk (o ++ o2).length : Nat) : Int) := by
      rw [g5, f8, hm, hsk, List.length_append]
      omega
    refine ⟨?_, ?_, ?_, ?_⟩
    · split
      · rename_i hde
        have h0 : (endsF (told3 d t)).got = (told3 d t).got := by
          have e1 : (ends1 (told3 d t)).got = (told3 d t).got := by unfold ends1; split <;> rfl
          unfold endsF
          split
          · rfl
          split
          · exact e1
          · show (losesF _).got = _
            unfold losesF lose2
            have := (lose1_ev (ends1 (told3 d t))).1
            split <;> exact this.trans e1
        simp only
        rw [h0]; exact g1
      · exact g1
    · split <;> exact t1
    · split <;> (rw [List.length_append]; omega)
    · by_cases hde : BD.doneF r2 = true
      · have h11 : r2.state = 11 := by unfold BD.doneF at hde; exact (of_decide_eq_true hde).1
        have hfull := S.full h3 h11
        have hDl := S.dl
        rw [← hfull] at hDl
        have hlen : (told ++ t).length = A.length - g := by
          have := congrArg List.length e1
          rw [List.length_drop, hDl] at this
          omega
        have hsk0 : (told3 d t).skip = 0 := by rw [g8, hDl]; omega
        have hgA : (told3 d t).got = A.length := by rw [g1, hlen]; omega
        rw [if_pos ⟨g2, hde⟩]
        have he1 : (ends1 (told3 d t)).got = A.length ∧ (ends1 (told3 d t)).total = A.length := by
          unfold ends1
          split
          · exact ⟨hgA, hgA⟩
          · rename_i hneg
            refine ⟨hgA, ?_⟩
            rw [g6, f4] at hneg ⊢
            omega
        refine .inr (.inr (.inl ?_))
        unfold endsF
        rw [if_neg (show ¬ 0 < (told3 d t, t).1.skip by show ¬ 0 < (told3 d t).skip; omega), if_pos (show (ends1 (told3 d t)).got = (ends1 (told3 d t)).total by rw [he1.1, he1.2])]
        exact ⟨rfl, he1.1, he1.2⟩
      · rw [if_neg (fun h => hde h.2)]
        refine .inr (.inl ⟨g3, k + p.length, r2, o ++ o2, rfl, ⟨hk, h3, g2, g8, e1.symm, g1, g7, by rw [g6, f4]; exact htt⟩, g4, ?_⟩)
        intro h11
        exact hde (by unfold BD.doneF; exact decide_eq_true ⟨h11, hr2e⟩)
theorem prefix_take {q p r : List UInt8} (h : q ++ p <+: r) : q ++ p = r.take (q.length + p.length) := by
  have := List.prefix_iff_eq_take.1 h
  rw [List.length_append] at this
  exact this
set_option maxHeartbeats 1000000 in
theorem at_in (S : Srv A g H B x R0 D sk lf) {bz : Bool} (hh : HeadsAs A g x R0 sk lf bz) {q told : List UInt8} {c : Cl} (h : AtP A g H B R0 sk lf bz q told c) (p : List UInt8) (hp : q ++ p <+: H ++ B) :
    AtP A g H B R0 sk lf bz (q ++ p) (told ++ (inF c p).2) (inF c p).1 := by
  obtain ⟨a1, a2, a3, h⟩ := h
  have hq := prefix_take hp
  rcases h with ⟨b1, b2, b8, b9, b3, b4, b5, b6, b7⟩ | ⟨hbg, k, r, o, b1, b2, b3, b4⟩ | b
  · subst b6
    unfold inF
    rw [if_pos b1]
    obtain ⟨d, hd⟩ : ∃ d : Cl, (if p = [] then c else { c with last := c.now }) = d := ⟨_, rfl⟩
    have f : d.state = 1 ∧ d.began = g ∧ d.skip = 0 ∧ d.left = -1 ∧ d.body = none ∧ d.head = q ∧ d.got = g ∧ (d.total = -1 ∨ d.total = A.length) := by
      rw [← hd]
      split <;> exact ⟨b1, b2, b8, b9, b3, b4, by simpa using a1, b7⟩
    obtain ⟨f1, f2, f8, f9, f3, f4, f5, f6⟩ := f
    rw [hd]
    clear hd
    unfold in1
    rw [f3]
    simp only
    rw [f4]
    unfold in1n
    have hpH := S.hp []
    rw [List.append_nil] at hpH
    by_cases hlt : (q ++ p).length < H.length
    · have e : q ++ p = H.take (q ++ p).length := by
        rw [List.length_append] at hlt ⊢
        rw [hq, List.take_append_of_le_length (by omega)]
      have hf : parseF (q ++ p) = .fail 172 := by
        rcases parse_cut H (q ++ p).length (by omega) with ⟨c1, c2⟩ | ⟨c1, _⟩
        · have := c2 _ _ hpH; omega
        · rw [e]; exact c1
      rw [hf]
      simp only [if_true]
      exact ⟨by simpa using f5, by simp, by simpa using S.ga, .inl ⟨f1, f2, f8, f9, f3, rfl, hlt, by simp, f6⟩⟩
    · obtain ⟨k, hk⟩ : ∃ k, (q ++ p).length = H.length + k := ⟨(q ++ p).length - H.length, by omega⟩
      have hkB : k ≤ B.length := by
        have := hp.length_le
        have h2 : (H ++ B).length = H.length + B.length := List.length_append
        omega
      have e : q ++ p = H ++ B.take k := by
        rw [hq]
        rw [List.length_append] at hk
        rw [hk, List.take_append, List.take_of_length_le (by omega), Nat.add_sub_cancel_left]
      rw [e, S.hp]
      simp only
      unfold in1h
      rcases hh { d with head := H ++ B.take k } f1 f5 f8 f9 f6 with ⟨y, y1, y2, y3, y4, y5⟩ | ⟨y1, y2⟩ | ⟨tt, y1, y2⟩
      · rw [y1]
        simp only [Bool.false_eq_true, if_false]
        refine ⟨?_, by simp, by simpa using S.ga, .inr (.inr (.inr (.inl ⟨rfl, rfl, ?_, ?_⟩)))⟩
        · show y.got = _
          rw [y2]; simpa using f5
        · show y.limit < _; rw [y4]; exact y5
        · show y.total = -1 ∨ y.total = _; rw [y3]; exact f6
      · rw [y2]
        simp only [Bool.false_eq_true, if_false]
        have hg := (lose1_ev { d with head := H ++ B.take k }).1
        have ht : (lose1 { d with head := H ++ B.take k }).total = d.total := by unfold lose1; split <;> rfl
        refine ⟨?_, by simp, by simpa using S.ga, .inr (.inr (.inr (.inr ⟨y1, ?_, ?_⟩)))⟩
        · unfold losesF lose2
          split <;> (show (lose1 _).got = _; rw [hg]; simpa using f5)
        · unfold losesF lose2
          split
          · exact .inr ⟨rfl, rfl⟩
          · exact .inl rfl
        · unfold losesF lose2
          split <;> (show (lose1 _).total = -1 ∨ (lose1 _).total = _; rw [ht]; exact f6)
      · rw [y1]
        simp only [if_true]
        have hdrop : (H ++ B.take k).drop H.length = B.take k := by simp
        rw [hdrop]
        have hl : (B.take k).length = k := by simp; omega
        have st := body_step S (k := 0) (told := []) (c := { d with head := H ++ B.take k, body := some R0, skip := sk, left := lf, total := tt }) (r := R0) (o := [])
          ⟨by omega, by simp [BD.feeds_nil], f1, by simp, by simp, by simpa using f5, by simp only [List.length_nil]; have := S.lf0; have := S.ga; split <;> omega, y2⟩ f2 bz (B.take k) (by rw [hl]; simp) (by rw [hl]; omega)
        rw [hl, Nat.zero_add, List.nil_append] at st
        exact st
  · subst b1
    have e : B.take k ++ p = B.take (k + p.length) := by
      rw [List.append_assoc, List.length_append] at hq
      have hl : (B.take k).length = k := by have := b2.kb; simp; omega
      rw [hl, List.take_append, List.take_of_length_le (l := H) (by omega)] at hq
      have := List.append_cancel_left hq
      rw [this]; congr 1; omega
    have hk : k + p.length ≤ B.length := by
      have := hp.length_le
      rw [List.length_append, List.length_append, List.length_append] at this
      have hl : (B.take k).length = k := by have := b2.kb; simp; omega
      omega
    unfold inF
    rw [if_pos b2.st]
    obtain ⟨d, hd⟩ : ∃ d : Cl, (if p = [] then c else { c with last := c.now }) = d := ⟨_, rfl⟩
    have f : Body A g B R0 sk lf k told d r o ∧ d.body = some r ∧ d.began = g := by
      rw [← hd]
      split
      · exact ⟨b2, b3, hbg⟩
      · exact ⟨⟨b2.kb, b2.fd, b2.st, b2.skp, b2.tl, b2.got, b2.lfp, b2.tt⟩, b3, hbg⟩
    rw [hd]
    obtain ⟨f1, f2, f3⟩ := f
    unfold in1
    rw [f2]
    simp only
    rw [List.append_assoc, e]
    exact body_step S f1 f3 bz p e hk
  · have hs : c.state ≠ 1 := by rcases b with ⟨h, _⟩ | ⟨h, _⟩ | ⟨_, h | ⟨h, _⟩, _⟩ <;> rw [h] <;> decide
    unfold inF
    rw [if_neg hs]
    simp only [List.append_nil]
    exact ⟨a1, a2, a3, .inr (.inr b)⟩
end
def runP : Nat → Cl → Nat → List UInt8 → Cl × List UInt8
  | 0, c, _, _ => (c, [])
  | f + 1, c, p, s => if s = [] then (c, []) else ((runP f (inF c (s.take p)).1 p (s.drop p)).1, (inF c (s.take p)).2 ++ (runP f (inF c (s.take p)).1 p (s.drop p)).2)
theorem at_run {A : List UInt8} {g : Nat} {H B : List UInt8} {x : Hd} {R0 : BD.Rd} {D : List UInt8} {sk : Nat} {lf : Int} (S : Srv A g H B x R0 D sk lf) {bz : Bool} (hh : HeadsAs A g x R0 sk lf bz) (p : Nat) (hp1 : 1 ≤ p) :
    ∀ (f : Nat) (c : Cl) (q told s : List UInt8), s.length ≤ f → q ++ s <+: H ++ B → AtP A g H B R0 sk lf bz q told c → AtP A g H B R0 sk lf bz (q ++ s) (told ++ (runP f c p s).2) (runP f c p s).1
  | 0, c, q, told, s, hf, hq, h => by
    have : s = [] := List.eq_nil_of_length_eq_zero (by omega)
    subst this
    unfold runP; simpa using h
  | f + 1, c, q, told, s, hf, hq, h => by
    unfold runP
    by_cases hs : s = []
    · subst hs; rw [if_pos rfl]; simpa using h
    · rw [if_neg hs]
      have hsl : 0 < s.length := List.length_pos_iff.2 hs
      have e : s.take p ++ s.drop p = s := List.take_append_drop p s
      have h1 := at_in S hh h (s.take p) (by
        refine List.IsPrefix.trans ?_ hq
        rw [← List.append_cancel_left_eq q] at e
        exact ⟨s.drop p, by rw [List.append_assoc]; simp⟩)
      have h2 := at_run S hh p hp1 f _ (q ++ s.take p) _ (s.drop p) (by simp; omega) (by rw [List.append_assoc, e]; exact hq) h1
      rw [List.append_assoc, e, List.append_assoc] at h2
      exact h2
/-! ### What the server tells -/
def pieceL (x : List UInt8) : List UInt8 := Lib.decDigits x.length ++ nl ++ x ++ nl
def chunkPre (A : List UInt8) : Nat → List UInt8
  | 0 => []
  | j + 1 => chunkPre A j ++ pieceL ((A.drop (9 * j)).take 9)
def zeroL : List UInt8 := [48, 13, 10, 13, 10]
def chunksB (A : List UInt8) : List UInt8 := chunkPre A ((A.length + 8) / 9) ++ zeroL
def respF (k : Int) (A : List UInt8) (g : Nat) : List UInt8 :=
  if k = 1 ∧ g < A.length then partH g A.length ++ A.drop g
  else if k = 2 then chunkH ++ chunksB A
  else if k = 3 then openH ++ A
  else if k = 4 then busyH
  else wholeH A.length ++ A
/-! ### The five ways of a server -/
theorem feeds_sz (D : List UInt8) (h : D.length ≤ 1048576) : ∃ rE, BD.feeds (rdSz D.length) D = (rE, D, 0) := by
  by_cases h0 : D = []
  · subst h0; exact ⟨_, rfl⟩
  · have hl : 0 < D.length := List.length_pos_iff.2 h0
    have := BD.feeds_some 0 D (rdSz D.length) (by unfold rdSz; simp; omega) (.inl rfl) (by unfold rdSz; simp; omega) h0 (by unfold rdSz; simp)
    exact ⟨_, this⟩
theorem hexL_one (n : Nat) (h : n < 10) : BD.hexL 5 n = Lib.decDigits n := by
  unfold BD.hexL
  rw [if_pos (by omega), Lib.decDigits_one h]
  unfold BD.hexD
  rw [if_pos h]
theorem feeds_pre (A : List UInt8) (h : A.length ≤ 2000) : ∀ j, 9 * j ≤ A.length + 8 → BD.feeds BD.rdC (chunkPre A j) = ({ BD.rdC with told := ((min (9 * j) A.length : Nat) : Int) }, A.take (9 * j), 0)
  | 0, _ => by
    have e : min (9 * 0) A.length = 0 := by omega
    rw [e]
    rfl
  | j + 1, hj => by
    have ih := feeds_pre A h j (by omega)
    obtain ⟨y, hy⟩ : ∃ y, (A.drop (9 * j)).take 9 = y := ⟨_, rfl⟩
    have hyl : y.length = min 9 (A.length - 9 * j) := by rw [← hy]; simp
    have hne : y ≠ [] := by intro e; rw [e] at hyl; simp at hyl; omega
    have hp : pieceL y = BD.chunkL y := by
      unfold pieceL BD.chunkL nl
      rw [hexL_one _ (by omega)]
    have h1 := BD.feeds_chunk y { BD.rdC with told := ((min (9 * j) A.length : Nat) : Int) } hne (by rfl) (by rfl) (by rfl) (by simp only; omega) (by simp only; omega)
    have h2 := BD.feeds_go ih h1
    unfold chunkPre
    rw [hy, hp, h2]
    have e1 : A.take (9 * (j + 1)) = A.take (9 * j) ++ y := by
      rw [← hy, Nat.mul_succ, List.take_add]
    have e2 : ({ BD.rdC with told := ((min (9 * j) A.length : Nat) : Int) + y.length } : BD.Rd) = { BD.rdC with told := ((min (9 * (j + 1)) A.length : Nat) : Int) } := by
      have e0 : (min (9 * j) A.length + y.length : Nat) = min (9 * (j + 1)) A.length := by omega
      rw [← e0, Int.natCast_add]
    simp only [if_true]
    rw [e1]
    refine Prod.ext ?_ rfl
    exact e2
theorem feeds_zeroL (r : BD.Rd) (h1 : r.state = 2) (h2 : r.many = 0) (h3 : r.left = 0) : BD.feeds r zeroL = ({ r with state := 11 }, [], 0) := by
  have e1 : BD.feed r 48 = ({ r with left := 0, many := 1 }, [], 0) := BD.feed_dig' r 0 0 1 h1 (by decide) (by omega) (by omega) (by omega)
  have e4 : BD.feed { r with left := 0, many := 1 } 13 = ({ r with left := 0, many := 1, state := 3 }, [], 0) := by
    simp [BD.feed, h1, BD.byteF, BD.lineF]
  have e5 : BD.feed { r with left := 0, many := 1, state := 3 } 10 = ({ r with left := 0, many := 0, state := 7 }, [], 0) := by
    simp [BD.feed, BD.byteF, BD.beginsF]
  have e6 : BD.feed { r with left := 0, many := 0, state := 7 } 13 = ({ r with left := 0, many := 0, state := 10 }, [], 0) := by
    simp [BD.feed, BD.byteF, BD.withinF]
  have e7 : BD.feed { r with left := 0, many := 0, state := 10 } 10 = ({ r with left := 0, many := 0, state := 11 }, [], 0) := by
    simp [BD.feed, BD.byteF, BD.isF]
  have hfin : ({ r with left := 0, many := 0, state := 11 } : BD.Rd) = { r with state := 11 } := by cases r; simp_all
  rw [hfin] at e7
  exact BD.feeds_cons_ok e1 (BD.feeds_cons_ok e4 (BD.feeds_cons_ok e5 (BD.feeds_cons_ok e6 (BD.feeds_cons_ok e7 (BD.feeds_nil _)))))
theorem feeds_chunks (A : List UInt8) (h : A.length ≤ 2000) : ∃ rE, BD.feeds BD.rdC (chunksB A) = (rE, A, 0) := by
  have h1 := feeds_pre A h ((A.length + 8) / 9) (by omega)
  have h2 := feeds_zeroL { BD.rdC with told := ((min (9 * ((A.length + 8) / 9)) A.length : Nat) : Int) } rfl rfl rfl
  have h3 := BD.feeds_go h1 h2
  have h4 : (BD.feeds BD.rdC (chunksB A)).2 = (A, 0) := by
    unfold chunksB
    rw [h3]
    simp only [if_true, List.append_nil]
    rw [List.take_of_length_le (by omega)]
  exact ⟨(BD.feeds BD.rdC (chunksB A)).1, Prod.ext rfl h4⟩
theorem srv_whole (A : List UInt8) (g : Nat) (h : A.length ≤ 2000) (hg : g ≤ A.length) : Srv A g (wholeH A.length) A ⟨200, [BD.clName], [Lib.decDigits A.length]⟩ (rdSz A.length) A g (-1) :=
  ⟨whole_parse A.length (by omega), hg, (newF_start (newF_whole A.length (by omega))).1, rfl, rfl, by omega, .inl rfl, feeds_sz A (by omega)⟩
theorem srv_part (A : List UInt8) (g : Nat) (h : A.length ≤ 2000) (hg : g < A.length) : Srv A g (partH g A.length) (A.drop g) ⟨206, [crName, BD.clName], [spanL g (A.length - 1) A.length, Lib.decDigits (A.length - g)]⟩ (rdSz (A.length - g)) (A.drop g) 0 ((A.length : Int) - g) :=
  ⟨part_parse g A.length hg (by omega), by omega, (newF_start (newF_part (spanL g (A.length - 1) A.length) (A.length - g) (by omega))).1, rfl, by simp, by simp, .inr rfl, by have := feeds_sz (A.drop g) (by simp; omega); rwa [List.length_drop] at this⟩
theorem srv_chunk (A : List UInt8) (g : Nat) (h : A.length ≤ 2000) (hg : g ≤ A.length) : Srv A g chunkH (chunksB A) ⟨200, [BD.teName], [BD.chunked]⟩ BD.rdC A g (-1) :=
  ⟨chunk_parse, hg, BD.rdC_ok, rfl, rfl, by omega, .inl rfl, feeds_chunks A h⟩
theorem srv_open (A : List UInt8) (g : Nat) (h : A.length ≤ 2000) (hg : g ≤ A.length) : Srv A g openH A ⟨200, [], []⟩ BD.rdO A g (-1) :=
  ⟨open_parse, hg, BD.rdO_ok, rfl, rfl, by omega, .inl rfl, by
    have := BD.feeds_open A BD.rdO rfl (by decide) (by decide)
    rw [if_pos (by simp [BD.rdO, BD.rdNil]; omega)] at this
    exact ⟨_, this⟩⟩
theorem heads3_as {A : List UInt8} {g : Nat} {c : Cl} (hg : c.got = g) (ht : c.total = -1 ∨ c.total = A.length) (hga : g ≤ A.length) :
    (∃ d : Cl, heads3 c A.length = (failsF d 193, false) ∧ d.got = c.got ∧ d.total = c.total ∧ d.limit = c.limit ∧ c.limit < A.length) ∨ heads3 c A.length = ({ c with total := A.length }, true) := by
  unfold heads3
  rw [if_neg (by omega)]
  by_cases hl : c.limit < A.length
  · rw [if_pos hl]; exact .inl ⟨c, rfl, rfl, rfl, rfl, hl⟩
  · rw [if_neg hl, if_neg (by omega)]; exact .inr rfl
theorem as_200 {A : List UInt8} {g : Nat} {ns vs : List (List UInt8)} {R0 : BD.Rd} (hn : BD.newF 200 ns vs = (some R0, 0)) (hz : R0.size = -1 ∨ R0.size = A.length) (hga : g ≤ A.length) : HeadsAs A g ⟨200, ns, vs⟩ R0 g (-1) false := by
  intro c h1 h2 h3 h4 h5
  have e : headsF c ⟨200, ns, vs⟩ = heads3 { c with body := some R0, skip := g } R0.size := by
    unfold headsF
    rw [if_neg (by simp), if_neg (by simp)]
    have hn' : BD.newF ((200 : Nat) : Int) ns vs = (some R0, 0) := hn
    simp only [hn']
    unfold heads2
    rw [if_neg (by simp)]
    simp only [h2]
  rw [e]
  rcases hz with hz | hz
  · rw [hz]
    refine .inr (.inr ⟨c.total, ?_, h5⟩)
    unfold heads3
    rw [if_pos (by decide), ← h4]
  · rw [hz]
    rcases heads3_as (A := A) (g := g) (c := { c with body := some R0, skip := g }) h2 h5 hga with h | h
    · exact .inl h
    · refine .inr (.inr ⟨A.length, ?_, .inr rfl⟩)
      rw [h, ← h4]
theorem as_206 {A : List UInt8} {g : Nat} (h : A.length ≤ 2000) (hg : g < A.length) : HeadsAs A g ⟨206, [crName, BD.clName], [spanL g (A.length - 1) A.length, Lib.decDigits (A.length - g)]⟩ (rdSz (A.length - g)) 0 ((A.length : Int) - g) false := by
  intro c h1 h2 h3 h4 h5
  obtain ⟨sv, hsv⟩ : ∃ sv, spanL g (A.length - 1) A.length = sv := ⟨_, rfl⟩
  have hsp := spanF_spanL g (A.length - 1) A.length (by omega) (by omega) (by omega)
  rw [hsv] at hsp ⊢
  obtain ⟨dv, hdv⟩ : ∃ dv, Lib.decDigits (A.length - g) = dv := ⟨_, rfl⟩
  have hnp := newF_part sv (A.length - g) (by omega)
  rw [hdv] at hnp ⊢
  have hget : getF [crName, BD.clName] [sv, dv] crName = (sv, 1) := by rfl
  have e : headsF c ⟨206, [crName, BD.clName], [sv, dv]⟩ = heads3 { c with body := some (rdSz (A.length - g)), left := (A.length : Int) - g } A.length := by
    unfold headsF
    rw [if_neg (by simp), if_neg (by simp)]
    have hn' : BD.newF ((206 : Nat) : Int) [crName, BD.clName] [sv, dv] = (some (rdSz (A.length - g)), 0) := hnp
    simp only [hn']
    unfold heads2
    rw [if_pos (by rfl)]
    simp only [hget, hsp]
    have hy : spanYes { c with body := some (rdSz (A.length - g)) } (rdSz (A.length - g)) ⟨g, (A.length - 1 : Nat), A.length, true⟩ 1 = true := by
      unfold spanYes
      refine decide_eq_true ⟨rfl, rfl, h2.symm, ?_⟩
      unfold rdSz
      simp only
      omega
    rw [if_pos hy]
    have : ((A.length - 1 : Nat) : Int) - g + 1 = (A.length : Int) - g := by omega
    rw [this]
  rw [e]
  rcases heads3_as (A := A) (g := g) (c := { c with body := some (rdSz (A.length - g)), left := (A.length : Int) - g }) h2 h5 (by omega) with h | h
  · exact .inl h
  · refine .inr (.inr ⟨A.length, ?_, .inr rfl⟩)
    have h3' : c.skip = ((0 : Nat) : Int) := h3
    rw [h, ← h3']
theorem as_503 {A : List UInt8} {g : Nat} {R0 : BD.Rd} {sk : Nat} {lf : Int} : HeadsAs A g ⟨503, [], []⟩ R0 sk lf true := by
  intro c h1 h2 h3 h4 h5
  refine .inr (.inl ⟨rfl, ?_⟩)
  unfold headsF
  rw [if_pos (by simp)]
theorem srv_busy (A : List UInt8) (g : Nat) (h : A.length ≤ 2000) (hg : g ≤ A.length) : Srv A g busyH (A.drop g) ⟨503, [], []⟩ (rdSz (A.length - g)) (A.drop g) 0 (-1) :=
  ⟨busy_parse, hg, (newF_start (newF_part [] (A.length - g) (by omega))).1, rfl, by simp, by simp, .inl rfl, by have := feeds_sz (A.drop g) (by simp; omega); rwa [List.length_drop] at this⟩
end CL
end
section
namespace CL
set_option maxHeartbeats 8000000
set_option maxRecDepth 100000
/-! ### In memory: what the calls ask of the world -/
def Lies (w : World) (b bb : Nat) : Prop := ∃ w0 : World, BD.Tabs w0 ∧ PT w0 ∧ ML w0 ∧ Kept [] w0 w ∧ w0.heap.size ≤ b ∧ w0.heap.size ≤ bb ∧ bb < w.heap.size
theorem Lies.kept {w w' : World} {b bb : Nat} (h : Lies w b bb) (k : Kept [b, bb] w w') : Lies w' b bb := by
  obtain ⟨w0, h1, h2, h3, h4, h5, h6, h7⟩ := h
  exact ⟨w0, h1, h2, h3, h4.trans k (fun x hx => by simp at hx; rcases hx with rfl | rfl <;> (right; assumption)), h5, h6, by have := k.size; omega⟩
theorem Lies.next {w w' : World} {b bb b2 : Nat} (h : Lies w b bb) (k : Kept [b, bb] w w') (hb : b2 = bb ∨ w.heap.size ≤ b2) (hl : b2 < w'.heap.size) : Lies w' b b2 := by
  obtain ⟨w0, h1, h2, h3, h4, h5, h6, h7⟩ := h.kept k
  exact ⟨w0, h1, h2, h3, h4, h5, by rcases hb with rfl | hb; exact h6; (obtain ⟨_, _, _, _, g4, _, g6, g7⟩ := h); have := h6; have := k.size; omega, hl⟩
theorem Lies.ml {w : World} {b bb : Nat} (h : Lies w b bb) : ML w := by obtain ⟨w0, h1, h2, h3, h4, _⟩ := h; exact h3.kept h4
theorem Lies.pt {w : World} {b bb : Nat} (h : Lies w b bb) : PT w := by obtain ⟨w0, h1, h2, h3, h4, _⟩ := h; exact h2.kept h4
theorem Lies.tabs {w : World} {b bb : Nat} (h : Lies w b bb) : BD.Tabs w := by obtain ⟨w0, h1, h2, h3, h4, _⟩ := h; exact h1.kept (toBD h4)
theorem Lies.lt {w : World} {b bb : Nat} (h : Lies w b bb) : bb < w.heap.size := by obtain ⟨_, _, _, _, _, _, _, h7⟩ := h; exact h7
theorem Lies.same {w w' : World} {b bb : Nat} (h : Lies w b bb) (k : Kept [] w w') : Lies w' b bb := h.kept (k.mono (by simp))
def CrPost (v : Value) (b bb : Nat) (w : World) (c : Cl) (e : Ending) (w' : World) : Prop := e = .returned v ∧ ∃ b2, (b2 = bb ∨ w.heap.size ≤ b2) ∧ b2 < w'.heap.size ∧ ClAt w' b b2 c ∧ Kept [b, bb] w w'
theorem CrPost.mk {v : Value} {b bb b2 : Nat} {w w' : World} {c c' : Cl} (hl : bb < w.heap.size) (hb : b2 = bb ∨ (w.heap.size ≤ b2 ∧ b2 < w'.heap.size)) (h : ClAt w' b b2 c') (k : Kept [b, bb] w w') (e : c' = c) : CrPost v b bb w c (.returned v) w' := by
  subst e
  refine ⟨rfl, b2, ?_, ?_, h, k⟩
  · rcases hb with h | h; exact .inl h; exact .inr h.1
  · rcases hb with rfl | h; have := k.size; omega; exact h.2
theorem Kept.to2 {w w1 w2 : World} {b bb b2 : Nat} (h : Kept [b, bb] w w1) (hb : b2 = bb ∨ w.heap.size ≤ b2) (k : Kept [b, b2] w1 w2) : Kept [b, bb] w w2 :=
  h.trans k (fun x hx => by simp at hx; rcases hx with rfl | rfl; (left; simp); rcases hb with rfl | hb; (left; simp); right; exact hb)
theorem Kept.two {w w' : World} {b bb : Nat} (h : Kept [] w w') : Kept [b, bb] w w' := h.mono (by simp)
theorem Kept.one {w w' : World} {b bb : Nat} (h : Kept [bb] w w') : Kept [b, bb] w w' := h.mono (by simp)
theorem toBDS {w : World} {v : Value} {ss : List (List UInt8)} (h : StrsAt w v ss) : BD.StrsAt w v ss := h
theorem trimF_le (l : List UInt8) : (trimF l).length ≤ l.length := by
  have hd : ∀ (p : UInt8 → Bool) (l : List UInt8), (l.dropWhile p).length ≤ l.length := by
    intro p l
    induction l with
    | nil => simp
    | cons c l ih => simp only [List.dropWhile]; split <;> simp <;> omega
  unfold trimF Lib.trimS Lib.trimRightS Lib.trimLeftS
  refine Nat.le_trans (hd _ _) ?_
  rw [List.length_reverse]
  refine Nat.le_trans (hd _ _) ?_
  simp
theorem turn_vals {s : List UInt8} {h h' : Hd} {n n' : Nat} (hv : ∀ v ∈ h.vs, v.length ≤ s.length) (ht : turnF s h n = .on h' n') : ∀ v ∈ h'.vs, v.length ≤ s.length := by
  unfold turnF at ht
  cases hc : crlf (s.drop n) with
  | none => rw [hc] at ht; cases ht
  | some i =>
    rw [hc] at ht
    simp only at ht
    split at ht
    · cases ht
    split at ht
    · split at ht
      · cases ht
      · cases ht; exact hv
    split at ht
    · cases ht
    · rcases fieldF_cases ((s.drop n).take i) h (n + i + 2) with e | e | ⟨e, _⟩
      · rw [e] at ht; cases ht
      · rw [e] at ht; cases ht
      · rw [e] at ht; cases ht
        intro v hm
        simp only [List.mem_append, List.mem_singleton] at hm
        rcases hm with hm | hm
        · exact hv v hm
        · subst hm
          refine Nat.le_trans (trimF_le _) ?_
          simp; omega
theorem run_vals (s : List UInt8) : ∀ (f : Nat) (h h' : Hd) (n m : Nat), (∀ v ∈ h.vs, v.length ≤ s.length) → runF s f h n = .done h' m → ∀ v ∈ h'.vs, v.length ≤ s.length
  | 0, _, _, _, _, _, e => by cases e
  | f + 1, h, h', n, m, hv, e => by
    unfold runF at e
    cases ht : turnF s h n with
    | fail k => rw [ht] at e; cases e
    | done h1 n1 =>
      rw [ht] at e; cases e
      rw [(turnF_done ht).2.2.1]; exact hv
    | on h1 n1 => rw [ht] at e; exact run_vals s f h1 h' n1 m (turn_vals hv ht) e
theorem getF_len {ns vs : List (List UInt8)} {k : Nat} (h : ∀ v ∈ vs, v.length ≤ k) (name : List UInt8) : (getF ns vs name).1.length ≤ k := by
  unfold getF
  simp only
  split
  · rename_i i hi
    by_cases hl : i < vs.length
    · have : vs.getD i [] = vs[i] := by simp [List.getD, hl]
      rw [this]; exact h _ (List.getElem_mem _)
    · have : vs.getD i [] = [] := by rw [List.getD_eq_getElem?_getD, List.getElem?_eq_none (by omega)]; rfl
      rw [this]; simp
  · simp
/-! ### formed -/
theorem formed_any (k : Int) (w : World) : Calls Tryz.prog 32 #[I k] w fun e w' => e = .returned (I (formedF k)) ∧ w' = w := by
  by_cases hk : k = 181
  · have hb : (k == 181) = true := by simpa using hk
    have HF : Hid (formedF k = 193) := Lib.hid (by unfold formedF; rw [if_pos hk])
    clear hk
    go_enter Tryz.func32, Tryz.ntmps32
    go_wp2_with (fail)
    go_ret
    exact ⟨by rw [HF.out]; rfl, rfl⟩
  · have hb : (k == 181) = false := by simpa using hk
    have HF : Hid (formedF k = 192) := Lib.hid (by unfold formedF; rw [if_neg hk])
    clear hk
    go_enter Tryz.func32, Tryz.ntmps32
    go_wp2_with (fail)
    go_ret
    exact ⟨by rw [HF.out]; rfl, rfl⟩
/-! ### Lost, Clone -/
set_option maxHeartbeats 4000000 in
theorem lost_any (b bb : Nat) (c : Cl) (w : World) (h : ClAt w b bb c) (hk : c.Ok) : Calls Tryz.prog 18 #[Ptr b] w (ClPost (.tuple #[]) b bb w (lostF c)) := by
  obtain ⟨c0, c1, c2, c3, c4, c5, c6, c7, c8, c9, c10, c11, c12, c13, c14, c15, c16, c17, c18, c19, c20⟩ := (h).cells
  have hf := (h).free
  have H := Lib.hid h
  have HD := Lib.hid hk
  clear h hk
  go_enter Tryz.func18, Tryz.ntmps18
  by_cases hs : c.state = 1
  · have hsb : (c.state != 1) = false := by simpa using hs
    cases hb : c.body with
    | none =>
      have HF : Hid (lostF c = losesF c) := Lib.hid (by unfold lostF; rw [if_pos hs, hb])
      have hbv : c.bv bb = .pointer none := by unfold Cl.bv; rw [hb]
      rw [hbv] at c18
      have HP := Lib.hid (HD.out.pre hs)
      clear hs hbv hb
      go_wp2_with (fail)
      refine (loses_any b bb c _ H.out HP.out.bd).mono ?_
      rintro e w3 ⟨rfl, h3, k3⟩
      go_wp2_with (fail)
      exact bodyPost_end (v := .tuple #[]) (by simp [results, Tryz.results18, go_sem]) rfl (ClPost.mk h3 k3 HF.out)
    | some r =>
      have hbv : c.bv bb = Ptr bb := by unfold Cl.bv; rw [hb]
      rw [hbv] at c18
      obtain ⟨r', k, hcl⟩ : ∃ r' k, BD.closeF r = (r', k) := ⟨_, _, rfl⟩
      have HC : Hid (∀ W, BD.RdAt W bb r → Calls Tryz.prog 36 #[Ptr bb] W fun e w' => e = .returned (I k) ∧ BD.RdAt w' bb r' ∧ BD.Kept [bb] W w') := Lib.hid fun W hW => (BD.close_any bb r W hW).mono fun e w' hp => by unfold BD.RdPost at hp; rw [hcl] at hp; exact hp
      have HR := Lib.hid (H.out.rd r hb)
      have HB := Lib.hid (show c.body.isSome = true by rw [hb]; rfl)
      have hok : ({ c with body := some r' } : Cl).Bd := by
        have q := HD.out.bd
        exact ⟨q.f0, q.f1, q.l1, q.t0, q.t1, q.r0, q.r1, q.w0, q.w1, q.g0, q.g1, q.o0, q.o1, q.n0, q.n1, q.y0, q.y1, q.a0, q.a1, q.k0, q.k1, q.b0, q.b1, q.s0, q.s1, q.p0, q.p1, q.q0, q.q1⟩
      have HO := Lib.hid hok
      clear hok
      by_cases hk : k = 0
      · have hkb : (k == 0) = true := by simpa using hk
        have HF : Hid (lostF c = endsF { c with body := some r' }) := Lib.hid (by unfold lostF; rw [if_pos hs, hb]; simp only; rw [hcl, if_pos hk])
        clear hs hbv hb hcl hk
        go_wp2_with (fail)
        refine (HC.out _ HR.out).mono ?_
        rintro e w1 ⟨rfl, r1, k1⟩
        have H1 := Lib.hid (And.intro (H.out.body HB.out k1 r1) (Kept.one (b := b) (ofBD k1)))
        clear r1 k1
        go_wp2_with (fail)
        (refine (ends_any b bb _ _ H1.out.1 HO.out).mono ?_)
        (rintro e w3 ⟨rfl, h3, k3⟩)
        (go_wp2_with (fail))
        (exact bodyPost_end (v := .tuple #[]) (by simp [results, Tryz.results18, go_sem]) rfl (ClPost.mk h3 (H1.out.2.trans' k3) HF.out))
      · have hkb : (k == 0) = false := by simpa using hk
        have HF : Hid (lostF c = losesF { c with body := some r' }) := Lib.hid (by unfold lostF; rw [if_pos hs, hb]; simp only; rw [hcl, if_neg hk])
        clear hs hbv hb hcl hk
        go_wp2_with (fail)
        refine (HC.out _ HR.out).mono ?_
        rintro e w1 ⟨rfl, r1, k1⟩
        have H1 := Lib.hid (And.intro (H.out.body HB.out k1 r1) (Kept.one (b := b) (ofBD k1)))
        clear r1 k1
        go_wp2_with (fail)
        (refine (loses_any b bb _ _ H1.out.1 HO.out).mono ?_)
        (rintro e w3 ⟨rfl, h3, k3⟩)
        (go_wp2_with (fail))
        (exact bodyPost_end (v := .tuple #[]) (by simp [results, Tryz.results18, go_sem]) rfl (ClPost.mk h3 (H1.out.2.trans' k3) HF.out))
  · have hsb : (c.state != 1) = true := by simpa using hs
    have HF : Hid (lostF c = c) := Lib.hid (by unfold lostF; rw [if_neg hs])
    clear hs
    go_wp2_with (fail)
    exact bodyPost_end (v := .tuple #[]) (by simp [results, Tryz.results18, go_sem]) rfl (ClPost.mk H.out (Kept.refl _ _) HF.out)
end CL
end
end Go.Proofs.YtgdncdhalnijcaaGreatDoor
