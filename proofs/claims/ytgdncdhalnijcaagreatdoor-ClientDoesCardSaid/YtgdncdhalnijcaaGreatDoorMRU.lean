/- Walks and lemmas on the program of this seat, used by its statements; each theorem bears its own conditions. -/
import Derived.Test.YtgdncdhalnijcaaGreatDoorMRL
import Derived.Handy
import Derived.Recover
import Derived.IntWalk
import Derived.Deep.CutRange
import Derived.OwnWalk
import Derived.Deep.AppendLies
import Derived.Deep.RegionLaw
import Derived.Deep.RegionHeld3
import Derived.StillTailTactics
import Derived.RegionTactic
import Derived.ChangeAlike
namespace Go.Proofs.YtgdncdhalnijcaaGreatDoor
open Go.RowKit
set_option linter.unusedVariables false
set_option linter.unusedSimpArgs false
section
namespace BD
/-! ### What is told, and what is left -/
theorem newF_sized {st : Int} {names values : List (List UInt8)} {r : Rd} (h : newF st names values = (some r, 0)) (hs : 0 ≤ r.size) : (r.state = 0 ∨ (r.state = 11 ∧ r.size = 0)) ∧ r.left = r.size := by
  unfold newF at h
  by_cases h1 : st < 200 ∨ st = 204 ∨ st = 304
  · rw [if_pos h1] at h; simp at h; subst h; exact ⟨.inr ⟨rfl, rfl⟩, rfl⟩
  rw [if_neg h1] at h
  by_cases h2 : 0 < (getF names values teName).2
  · rw [if_pos h2] at h
    split at h
    · simp at h
    · simp at h; subst h; simp at hs
  rw [if_neg h2] at h
  by_cases h3 : 0 < (getF names values clName).2
  · rw [if_pos h3] at h
    split at h
    · simp at h
    split at h
    · simp at h
    generalize lengthF (getF names values clName).1 = n at *
    simp at h; subst h
    refine ⟨?_, rfl⟩
    by_cases hn : n = 0
    · simp [hn]
    · simp [hn]
  rw [if_neg h3] at h
  simp at h; subst h; simp at hs
theorem feed_out (r : Rd) (c : UInt8) (h : (feed r c).2.2 = 0) : (feed r c).1.told = r.told + (feed r c).2.1.length ∧ (feed r c).2.1.length + (feed r c).1.rest.length ≤ r.rest.length + 1 := by
  have k := keeps_byte r c
  unfold feed at h ⊢
  by_cases h11 : r.state = 11
  · rw [if_pos h11]; simp
  rw [if_neg h11] at h ⊢
  by_cases h1 : r.state = 1
  · rw [if_pos h1] at h ⊢
    by_cases h2 : 1048576 ≤ r.told
    · rw [if_pos h2] at h; simp at h
    · rw [if_neg h2]; simp; omega
  rw [if_neg h1] at h ⊢
  by_cases h0 : r.state = 0
  · rw [if_pos h0]; simp; omega
  rw [if_neg h0] at h ⊢
  by_cases h4 : r.state = 4
  · rw [if_pos h4]; simp; omega
  rw [if_neg h4]
  simp only [List.length_nil]
  rw [k.2.2.1, k.2.2.2]
  simp
theorem feeds_out (l : List UInt8) : ∀ {r r' : Rd} {o : List UInt8}, feeds r l = (r', o, 0) → r'.told = r.told + o.length ∧ o.length + r'.rest.length ≤ r.rest.length + l.length := by
  induction l with
  | nil => intro r r' o h; simp [feeds] at h; obtain ⟨rfl, rfl⟩ := h; simp
  | cons c l ih =>
    intro r r' o h
    simp only [feeds] at h
    by_cases h1 : (feed r c).2.2 = 0
    · rw [if_pos h1] at h
      by_cases h2 : (feeds (feed r c).1 l).2.2 = 0
      · rw [if_pos h2] at h
        simp only [Prod.mk.injEq] at h
        obtain ⟨rfl, rfl, _⟩ := h
        have i := ih (r := (feed r c).1) (r' := (feeds (feed r c).1 l).1) (o := (feeds (feed r c).1 l).2.1) (by rw [← h2])
        have j := feed_out r c h1
        simp only [List.length_append, List.length_cons]
        omega
      · rw [if_neg h2] at h; simp only [Prod.mk.injEq] at h; exact absurd h.2.2 h2
    · rw [if_neg h1] at h; simp only [Prod.mk.injEq] at h; exact absurd h.2.2 h1
def Sz (r : Rd) : Prop := 0 ≤ r.size → (r.state = 0 ∧ r.told + r.left = r.size) ∨ (r.state = 11 ∧ r.told = r.size)
theorem sz_feed {r : Rd} (h : Sz r) (c : UInt8) : Sz (feed r c).1 := by
  intro hs
  rw [(keeps_feed r c).1] at hs ⊢
  have h' := h hs
  unfold feed
  rcases h' with ⟨h0, h1⟩ | ⟨h0, h1⟩
  · rw [if_neg (by omega), if_neg (by omega), if_pos h0]
    simp only
    by_cases hl : r.left = 1
    · rw [if_pos hl]; right; exact ⟨rfl, by omega⟩
    · rw [if_neg hl]; left; exact ⟨rfl, by omega⟩
  · rw [if_pos h0]; right; exact ⟨h0, h1⟩
theorem sz_feeds (l : List UInt8) : ∀ {r : Rd}, Sz r → Sz (feeds r l).1 := by
  induction l with
  | nil => intro r h; exact h
  | cons c l ih =>
    intro r h
    simp only [feeds]
    have h1 := sz_feed h c
    split
    · split <;> exact ih h1
    · exact h1
/-- What the statement asks behind a Write that went well. -/
theorem bounds_ok {R0 r : Rd} {pre o : List UInt8} (hz : Sz R0) (ht : R0.told = 0) (hr : R0.rest = []) (hi : R0.Inv) (hs : 0 ≤ R0.state ∧ R0.state ≤ 11) (h : feeds R0 pre = (r, o, 0)) :
    r.told = o.length ∧ (o.length : Int) ≤ 1048576 ∧ (0 ≤ r.size → (o.length : Int) ≤ r.size) ∧ o.length + (restF r).length ≤ pre.length ∧ (doneF r = true → 0 ≤ r.size → (o.length : Int) = r.size) := by
  obtain ⟨h1, h2⟩ := feeds_out pre h
  have h3 := inv_feeds pre hi hs (by rw [h])
  have h4 := sz_feeds pre hz
  rw [h] at h3 h4
  simp only at h3 h4
  rw [hr] at h2
  simp only [List.length_nil, Nat.zero_add] at h2
  have h5 := h3.1.t1
  have h6 := h3.1.f0
  refine ⟨by omega, by omega, fun hsz => ?_, ?_, fun hd hsz => ?_⟩
  · rcases h4 hsz with h7 | h7 <;> omega
  · unfold restF; split
    · exact h2
    · simp; omega
  · have hst : r.state = 11 := by simp only [doneF, decide_eq_true_eq] at hd; exact hd.1
    rcases h4 hsz with h7 | h7 <;> omega
end BD
end
section
namespace BD
/-! ### Texts laid as chunks -/
def hexD (n : Nat) : UInt8 := if n < 10 then UInt8.ofNat (48 + n) else if n = 10 then 97 else if n = 11 then 66 else if n = 12 then 99 else if n = 13 then 68 else if n = 14 then 101 else 70
def hexL (fuel : Nat) (n : Nat) : List UInt8 := match fuel with | 0 => [hexD (n % 16)] | f + 1 => if n < 16 then [hexD n] else hexL f (n / 16) ++ [hexD (n % 16)]
theorem hexD_val : ∀ d, d < 16 → digitF (hexD d) = d ∧ (hexD d).toNat ≠ 13 := by decide
theorem feed_dig (r : Rd) (c : UInt8) (h1 : r.state = 2) (hd : 0 ≤ digitF c) (h13 : c.toNat ≠ 13) (h6 : r.many ≠ 6) : feed r c = ({ r with left := 16 * r.left + digitF c, many := r.many + 1 }, [], 0) := by
  have hb : byteF r c = ({ r with left := 16 * r.left + digitF c, many := r.many + 1 }, 0) := by
    unfold byteF lineF; rw [if_pos h1, if_neg (by omega), if_neg (by omega)]
  unfold feed; rw [if_neg (by omega), if_neg (by omega), if_neg (by omega), if_neg (by omega), hb]
theorem feed_dig' (r : Rd) (n : Nat) (v m : Int) (h1 : r.state = 2) (hn : n < 16) (h6 : r.many ≠ 6) (hv : v = 16 * r.left + n) (hm : m = r.many + 1) : feed r (hexD n) = ({ r with left := v, many := m }, [], 0) := by
  obtain ⟨d1, d2⟩ := hexD_val n hn
  subst hv hm
  rw [feed_dig r _ h1 (by omega) d2 h6, d1]
/-- A chunk's number is told digit by digit. -/
theorem feeds_hex (f : Nat) : ∀ (n : Nat) (r : Rd), n < 16 ^ (f + 1) → f < 6 → r.state = 2 → r.many = 0 → r.left = 0 →
    ∃ k : Int, feeds r (hexL f n) = ({ r with left := n, many := k }, [], 0) ∧ 0 < k ∧ k ≤ f + 1 := by
  induction f with
  | zero =>
    intro n r hn _ h1 h2 h3
    have hn16 : n < 16 := by simpa using hn
    refine ⟨1, ?_, by decide, by simp⟩
    have e : feed r (hexD n) = ({ r with left := n, many := 1 }, [], 0) := feed_dig' r n _ _ h1 hn16 (by omega) (by omega) (by omega)
    have hx : hexL 0 n = [hexD n] := by simp [hexL, Nat.mod_eq_of_lt hn16]
    rw [hx]
    exact feeds_cons_ok e (feeds_nil _)
  | succ f ih =>
    intro n r hn hf h1 h2 h3
    by_cases hn16 : n < 16
    · refine ⟨1, ?_, by decide, by omega⟩
      have e : feed r (hexD n) = ({ r with left := n, many := 1 }, [], 0) := feed_dig' r n _ _ h1 hn16 (by omega) (by omega) (by omega)
      have hx : hexL (f + 1) n = [hexD n] := by simp [hexL, hn16]
      rw [hx]
      exact feeds_cons_ok e (feeds_nil _)
    · have hdiv : n / 16 < 16 ^ (f + 1) := by
        rw [Nat.div_lt_iff_lt_mul (by decide)]
        rw [Nat.pow_succ] at hn
        exact hn
      obtain ⟨k, hk, hk0, hk1⟩ := ih (n / 16) r hdiv (by omega) h1 h2 h3
      refine ⟨k + 1, ?_, by omega, by omega⟩
      have hx : hexL (f + 1) n = hexL f (n / 16) ++ [hexD (n % 16)] := by simp [hexL, hn16]
      rw [hx]
      have e : feed { r with left := (n / 16 : Nat), many := k } (hexD (n % 16)) = ({ r with left := n, many := k + 1 }, [], 0) := feed_dig' _ (n % 16) _ _ h1 (Nat.mod_lt _ (by decide)) (by simp only; omega) (by simp only; omega) rfl
      have := feeds_go hk (feeds_cons_ok e (feeds_nil _))
      simpa using this
/-- A text laid as a chunk. -/
def chunkL (x : List UInt8) : List UInt8 := hexL 5 x.length ++ [13, 10] ++ x ++ [13, 10]
theorem feeds_chunk (x : List UInt8) (r : Rd) (hx : x ≠ []) (h1 : r.state = 2) (h2 : r.many = 0) (h3 : r.left = 0) (h4 : 0 ≤ r.told) (h5 : r.told + x.length ≤ 1048576) :
    feeds r (chunkL x) = ({ r with told := r.told + x.length }, x, 0) := by
  have hl : 0 < x.length := List.length_pos_iff.2 hx
  have hp : x.length < 16 ^ (5 + 1) := by
    have h16 : (16 : Nat) ^ (5 + 1) = 16777216 := by decide
    rw [h16]; omega
  obtain ⟨k, hk, hk0, _⟩ := feeds_hex 5 x.length r hp (by decide) h1 h2 h3
  have e1 : feed { r with left := x.length, many := k } 13 = ({ r with left := x.length, many := k, state := 3 }, [], 0) := by
    simp [feed, h1, byteF, lineF, hk0]
  have e2 : feed { r with left := x.length, many := k, state := 3 } 10 = ({ r with left := x.length, many := 0, state := 4 }, [], 0) := by
    have hz : ¬ ((x.length : Int) = 0) := by omega
    have hb : ¬ ((x.length : Int) > 1048576 - r.told) := by omega
    simp only [feed, byteF, beginsF]
    simp [hb, hx]
  have e3 := feeds_some 4 x { r with left := x.length, many := 0, state := 4 } rfl (.inr rfl) (by simpa using hl) hx (by simp)
  simp only [Int.sub_self, if_true] at e3
  rw [if_neg (by decide)] at e3
  have e4 : feed { r with left := 0, many := 0, told := r.told + x.length, state := 5 } 13 = ({ r with left := 0, many := 0, told := r.told + x.length, state := 6 }, [], 0) := by
    simp [feed, byteF, isF]
  have e5 : feed { r with left := 0, many := 0, told := r.told + x.length, state := 6 } 10 = ({ r with left := 0, many := 0, told := r.told + x.length, state := 2 }, [], 0) := by
    simp [feed, byteF, isF]
  have hfin : ({ r with left := 0, many := 0, told := r.told + x.length, state := 2 } : Rd) = { r with told := r.told + x.length } := by
    cases r; simp_all
  rw [hfin] at e5
  have g1 := feeds_go hk (feeds_cons_ok e1 (feeds_cons_ok e2 (feeds_nil _)))
  have g2 := feeds_go g1 e3
  have g3 := feeds_go g2 (feeds_cons_ok e4 (feeds_cons_ok e5 (feeds_nil _)))
  simpa [chunkL] using g3
/-- "000" and its line's end. -/
theorem feeds_zero (r : Rd) (h1 : r.state = 2) (h2 : r.many = 0) (h3 : r.left = 0) : feeds r [48, 48, 48, 13, 10] = ({ r with state := 7 }, [], 0) := by
  have e1 : feed r 48 = ({ r with left := 0, many := 1 }, [], 0) := feed_dig' r 0 0 1 h1 (by decide) (by omega) (by omega) (by omega)
  have e2 : feed { r with left := 0, many := 1 } 48 = ({ r with left := 0, many := 2 }, [], 0) := feed_dig' { r with left := 0, many := 1 } 0 0 2 h1 (by decide) (by simp) (by simp) (by simp)
  have e3 : feed { r with left := 0, many := 2 } 48 = ({ r with left := 0, many := 3 }, [], 0) := feed_dig' { r with left := 0, many := 2 } 0 0 3 h1 (by decide) (by simp) (by simp) (by simp)
  have e4 : feed { r with left := 0, many := 3 } 13 = ({ r with left := 0, many := 3, state := 3 }, [], 0) := by
    simp [feed, h1, byteF, lineF]
  have e5 : feed { r with left := 0, many := 3, state := 3 } 10 = ({ r with left := 0, many := 0, state := 7 }, [], 0) := by
    simp [feed, byteF, beginsF]
  have hfin : ({ r with left := 0, many := 0, state := 7 } : Rd) = { r with state := 7 } := by cases r; simp_all
  rw [hfin] at e5
  exact feeds_cons_ok e1 (feeds_cons_ok e2 (feeds_cons_ok e3 (feeds_cons_ok e4 (feeds_cons_ok e5 (feeds_nil _)))))
/-- A line behind the last chunk. -/
def lineL : List UInt8 := [97, 110, 121, 32, 13, 32, 108, 105, 110, 101, 13, 10]
theorem feeds_line (r : Rd) (h1 : r.state = 7) (h2 : r.lines < 32) : ∃ m : Int, feeds r lineL = ({ r with lines := r.lines + 1, many := m }, [], 0) := by
  have hn : ¬ r.lines + 1 > 32 := by omega
  have step8 : ∀ (c : UInt8) (m : Int), 0 ≤ m → m < 200 → c.toNat ≠ 13 → feed { r with lines := r.lines + 1, many := m, state := 8 } c = ({ r with lines := r.lines + 1, many := m + 1, state := 8 }, [], 0) := by
    intro c m hm hm2 hc
    have hb : ¬ 256 < m + 1 := by omega
    simp [feed, byteF, withinF, hc, hb]
  have step13 : ∀ (m : Int), 0 ≤ m → m < 200 → feed { r with lines := r.lines + 1, many := m, state := 8 } 13 = ({ r with lines := r.lines + 1, many := m, state := 9 }, [], 0) := by
    intro m hm hm2
    have hb : ¬ 256 < m := by omega
    simp [feed, byteF, withinF, hb]
  have e1 : feed r 97 = ({ r with lines := r.lines + 1, many := 1, state := 8 }, [], 0) := by
    simp [feed, byteF, withinF, h1, hn]
  have e6 : feed { r with lines := r.lines + 1, many := 4, state := 9 } 32 = ({ r with lines := r.lines + 1, many := 6, state := 8 }, [], 0) := by
    simp [feed, byteF, withinF]
  have e12 : feed { r with lines := r.lines + 1, many := 10, state := 9 } 10 = ({ r with lines := r.lines + 1, many := 10, state := 7 }, [], 0) := by
    simp [feed, byteF, withinF]
  have hfin : ({ r with lines := r.lines + 1, many := 10, state := 7 } : Rd) = { r with lines := r.lines + 1, many := 10 } := by cases r; simp_all
  rw [hfin] at e12
  exact ⟨10, feeds_cons_ok e1 (feeds_cons_ok (step8 110 1 (by decide) (by decide) (by decide)) (feeds_cons_ok (step8 121 2 (by decide) (by decide) (by decide)) (feeds_cons_ok (step8 32 3 (by decide) (by decide) (by decide))
    (feeds_cons_ok (step13 4 (by decide) (by decide)) (feeds_cons_ok e6 (feeds_cons_ok (step8 108 6 (by decide) (by decide) (by decide)) (feeds_cons_ok (step8 105 7 (by decide) (by decide) (by decide)) (feeds_cons_ok (step8 110 8 (by decide) (by decide) (by decide))
    (feeds_cons_ok (step8 101 9 (by decide) (by decide) (by decide)) (feeds_cons_ok (step13 10 (by decide) (by decide)) (feeds_cons_ok e12 (feeds_nil _))))))))))))⟩
/-! ### No reader becomes an open one -/
theorem byte_ne1 (r : Rd) (c : UInt8) (h : r.state ≠ 1) : (byteF r c).1.state ≠ 1 := by
  have key : ∀ x : Rd × Int, x = byteF r c → x.1.state ≠ 1 := by
    intro x hx
    subst hx
    unfold byteF lineF beginsF isF withinF
    simp only
    repeat' (refine ite_ind (P := fun x : Rd × Int => x.1.state ≠ 1) (fun _ => ?_) (fun _ => ?_))
    all_goals first | exact h | (show (_ : Int) ≠ 1; decide) | (simp only; omega)
  exact key _ rfl
theorem feed_ne1 (r : Rd) (c : UInt8) (h : r.state ≠ 1) : (feed r c).1.state ≠ 1 := by
  have k := byte_ne1 r c h
  unfold feed
  rw [if_neg h]
  (repeat' split) <;> first | exact h | exact k | (simp only; omega)
theorem feeds_ne1 (s : List UInt8) : ∀ (r : Rd), r.state ≠ 1 → (feeds r s).1.state ≠ 1 := by
  induction s with
  | nil => intro r h; exact h
  | cons c s ih =>
    intro r h
    have h1 := feed_ne1 r c h
    have h2 := ih _ h1
    simp only [feeds]
    (repeat' split) <;> first | exact h1 | exact h2
end BD
end
section
namespace BD
set_option maxHeartbeats 8000000
set_option maxRecDepth 100000
/-! ### number: as body's length -/
set_option maxRecDepth 100000 in
set_option maxHeartbeats 1000000 in
theorem number_any (l : List UInt8) (w : World) :
    Calls Tryz.prog 118 #[S l] w fun e w' => e = .returned (I (lengthF l)) ∧ w = w' := by
  by_cases hs : l = []
  · subst hs
    go_enter Tryz.func118, Tryz.ntmps118
    go_wp2_with (fail)
    go_ret
    exact ⟨rfl, rfl⟩
  have hse : (!l.isEmpty) = true := by simpa using hs
  have hse' : l.isEmpty = false := by simpa using hs
  by_cases h9 : 9 < l.length
  · have HF : Hid (lengthF l = -1) := by unfold Hid lengthF; rw [if_pos (.inr h9)]
    have h9' : (9 : Int) < l.length := by omega
    clear hs
    go_enter Tryz.func118, Tryz.ntmps118
    go_wp2_with (fail)
    go_ret
    exact ⟨by rw [HF.out]; rfl, rfl⟩
  have h9' : (l.length : Int) ≤ 9 := by omega
  have HF : Hid (lengthF l = if l.all isDig then digs l else -1) := by unfold Hid lengthF; rw [if_neg (by simp [hs]; omega)]
  clear hs h9
  go_enter Tryz.func118, Tryz.ntmps118
  go_wp2_with (fail)
  go_loop [3, 14] (fun n i => ∃ k : Nat, k ≤ l.length ∧ i = I k ∧ n = I (digs (l.take k)) ∧ (l.take k).all isDig = true) (fun _ i => l.length - (intOf i).toNat)
  case atStart => exact ⟨0, by omega, rfl, rfl, rfl⟩
  case round =>
    obtain ⟨k, hk, rfl, rfl, hall⟩ := hrel
    have hbd := digs_bd (l.take k) hall k (by simp; omega)
    rw [List.take_take, Nat.min_self] at hbd
    have hp := pow10_le k (by omega)
    obtain ⟨hb0, hb1⟩ : 0 ≤ digs (l.take k) ∧ digs (l.take k) < 1000000000 := by omega
    have HA := Lib.hid hall
    clear hall hbd hp
    by_cases hlt : k < l.length
    · have hsn := all_take_snoc l k hlt
      have hds : digs (l.take (k + 1)) = 10 * digs (l.take k) + ((l[k].toNat : Int) - 48) := by rw [List.take_succ_eq_append_getElem hlt, digs_snoc]
      have hmem : l[k] ∈ l := List.getElem_mem _
      obtain ⟨c, hc⟩ : ∃ c, l[k] = c := ⟨_, rfl⟩
      rw [hc] at hsn hds hmem
      have hcl : c.toNat < 256 := c.toNat_lt
      have HS := Lib.hid hsn
      have HD := Lib.hid hds
      have HM := Lib.hid hmem
      generalize digs (l.take k) = d at *
      clear hsn hds hmem
      by_cases hdg : 48 ≤ c.toNat ∧ c.toNat ≤ 57
      · have hdd : isDig c = true := by simp [isDig, hdg]
        obtain ⟨h1, h2⟩ := hdg
        have h1' : (48 : Int) ≤ c.toNat := by omega
        have h2' : (c.toNat : Int) ≤ 57 := by omega
        go_wp2_with (fail)
        go_round
        case rel => exact ⟨k + 1, by omega, by go_num, by rw [HD.out], by rw [HS.out, HA.out, hdd]; rfl⟩
        case measure => simp [intOf]; omega
      · have hdd : isDig c = false := by simp only [isDig, decide_eq_false_iff_not]; exact hdg
        have HE : Hid (lengthF l = -1) := by
          unfold Hid
          rw [HF.out, if_neg]
          intro h
          have := (List.all_eq_true.1 h) c HM.out
          rw [hdd] at this; cases this
        go_wp2_with (fail)
        all_goals first
          | (exfalso; omega)
          | (go_ret; exact ⟨by rw [HE.out]; rfl, rfl⟩)
    · go_wp2_with (fail)
      go_ret
      have ht : l.take k = l := List.take_of_length_le (by omega)
      have ha := HA.out
      rw [ht] at ha
      rw [ht, HF.out, if_pos ha]
      exact ⟨rfl, rfl⟩
end BD
end
end Go.Proofs.YtgdncdhalnijcaaGreatDoor
