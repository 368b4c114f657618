/- Walks and lemmas on the program of this seat, used by its statements; each theorem bears its own conditions. -/
import Derived.Test.YtamihbcgiaeacaaDoorRdO
namespace Go.Proofs.YtamihbcgiaeacaaDoor
open Go.RowKit
set_option linter.unusedVariables false
set_option linter.unusedSimpArgs false
theorem i64_mask (n : Int) (m : Int) (j : Nat) (hj : j ≤ 40) (hm : (BitVec.ofInt 64 m).toNat = 2 ^ j - 1) : bits .and .i64 n m = n % ((2 ^ j : Nat) : Int) := by
  have key : (BitVec.ofInt 64 n &&& BitVec.ofInt 64 m).toNat = (n % ((2 ^ 64 : Nat) : Int)).toNat % 2 ^ j := by
    rw [BitVec.toNat_and, BitVec.toNat_ofInt, hm, Nat.and_two_pow_sub_one_eq_mod]
  show IntKind.i64.wrap ((BitVec.ofInt 64 n &&& BitVec.ofInt 64 m).toNat : Nat) = n % ((2 ^ j : Nat) : Int)
  have hp : (2 ^ 64 : Nat) = 2 ^ j * 2 ^ (64 - j) := by rw [← Nat.pow_add]; congr 1; omega
  have hlt : (n % ((2 ^ 64 : Nat) : Int)).toNat % 2 ^ j < 2 ^ 40 := Nat.lt_of_lt_of_le (Nat.mod_lt _ (Nat.two_pow_pos j)) (Nat.pow_le_pow_right (by decide) hj)
  have hv : (((n % ((2 ^ 64 : Nat) : Int)).toNat % 2 ^ j : Nat) : Int) = n % ((2 ^ j : Nat) : Int) := by
    rw [Int.natCast_emod, Int.toNat_of_nonneg (Int.emod_nonneg _ (by decide)), hp, Int.natCast_mul, Int.emod_emod_of_dvd]
    exact Int.dvd_mul_right _ _
  rw [key, IntKind.wrap_i64, ← hv]
  omega
@[go_sem] theorem i64_and1023 (n : Int) : bits .and .i64 n 1023 = n % 1024 := i64_mask n 1023 10 (by decide) (by decide)
@[go_sem] theorem i64_and63 (n : Int) : bits .and .i64 n 63 = n % 64 := i64_mask n 63 6 (by decide) (by decide)
@[go_sem] theorem i64_and31 (n : Int) : bits .and .i64 n 31 = n % 32 := i64_mask n 31 5 (by decide) (by decide)
def IntsAt (w : World) (v : Value) (zs : List Int) : Prop :=
  ∃ (p : Option Addr) (cap : Nat), v = .slice p zs.length cap ∧ zs.length ≤ 9223372036854775807 ∧ (∀ z ∈ zs, -9223372036854775808 ≤ z ∧ z ≤ 9223372036854775807) ∧ (zs ≠ [] → ∃ b off, p = some ⟨b, off, none⟩ ∧ ∀ (i : Nat) (h : i < zs.length), w.cell? ⟨b, off + i, none⟩ = some (I zs[i]))
theorem IntsAt.kept {w w' : World} {v : Value} {zs : List Int} (h : IntsAt w v zs) (k : Kept [] w w') : IntsAt w' v zs := by
  obtain ⟨p, cap, hv, hl, hz, hc⟩ := h
  refine ⟨p, cap, hv, hl, hz, fun hne => ?_⟩
  obtain ⟨b, off, hp, hcell⟩ := hc hne
  exact ⟨b, off, hp, fun i hi => by rw [k.cell (World.block_lt_of_cell? w _ (hcell i hi)) (by simp)]; exact hcell i hi⟩
theorem feeds_e {r : Rd} {l : List UInt8} {r' : Rd} {o : List UInt8} {k : Int} (h : feeds r l = (r', o, k)) : r'.e = r.e ∧ r'.size = r.size := by
  have := keeps_feeds l r; rw [h] at this; exact ⟨this.2, this.1⟩
theorem write_ok {r r' : Rd} {l o : List UInt8} (he : r.e = 0) (h : feeds r l = (r', o, 0)) : writeF r l = (r', o, 0) := by
  have h1 := (feeds_e h).1
  unfold writeF goesF
  rw [if_pos he, h]
  simp only [if_true]
  cases r'; simp at h1 ⊢; rw [h1, he]
theorem write_err {r r' : Rd} {l o : List UInt8} {k : Int} (he : r.e = 0) (h : feeds r l = (r', o, k)) (hk : k ≠ 0) : writeF r l = ({ r' with told := r.told, e := k }, [], k) := by
  unfold writeF goesF
  rw [if_pos he, h]
  simp [hk]
/-- What a reader's bytes so far make of it. -/
structure Fed (R0 : Rd) (pre : List UInt8) (r : Rd) (o : List UInt8) : Prop where
  eq : feeds R0 pre = (r, o, 0)
theorem fed_err {R0 r : Rd} {pre o : List UInt8} (h : feeds R0 pre = (r, o, 0)) (l t : List UInt8) {k : Int} (hk : (feeds r l).2.2 = k) (hne : k ≠ 0) : (feeds R0 (pre ++ l ++ t)).2.2 = k := by
  have h1 : feeds r l = ((feeds r l).1, (feeds r l).2.1, k) := by rw [← hk]
  have h2 := feeds_go h h1
  rw [feeds_append, h2]
  simp [hne]
theorem newF_cases (st : Int) (names values : List (List UInt8)) :
    (∃ k, newF st names values = (none, k) ∧ (k = 180 ∨ k = 181)) ∨ ∃ r, newF st names values = (some r, 0) ∧ r.Inv ∧ (0 ≤ r.state ∧ r.state ≤ 11) ∧ r.e = 0 ∧ r.rest = [] ∧ r.told = 0 ∧ (r.size = -1 ∨ 0 ≤ r.size ∧ (r.state = 0 ∨ r.state = 11) ∧ r.left = r.size) := by
  have plain : ∀ (a b : Int), (a = 11 ∨ a = 2 ∨ a = 1) → ({ rdNil with state := a, size := b } : Rd).Inv := by
    intro a b h
    refine ⟨by simp [rdNil], by simp [rdNil], by simp [rdNil], by simp [rdNil], by simp [rdNil], by simp [rdNil], by simp [rdNil], by simp [rdNil], fun _ => ⟨by simp [rdNil], by simp [rdNil, lim]⟩, ?_, ?_, ?_⟩ <;> simp only <;> intro h2 <;> omega
  unfold newF
  by_cases h1 : st < 200 ∨ st = 204 ∨ st = 304
  · rw [if_pos h1]; exact .inr ⟨_, rfl, plain 11 0 (.inl rfl), by simp, rfl, rfl, rfl, .inr (by simp [rdNil])⟩
  rw [if_neg h1]
  by_cases h2 : 0 < (getF names values teName).2
  · rw [if_pos h2]
    split
    · exact .inl ⟨180, rfl, .inl rfl⟩
    · exact .inr ⟨_, rfl, plain 2 (-1) (.inr (.inl rfl)), by simp, rfl, rfl, rfl, .inl rfl⟩
  rw [if_neg h2]
  by_cases h3 : 0 < (getF names values clName).2
  · rw [if_pos h3]
    by_cases h4 : 1 < (getF names values clName).2 ∨ lengthF (getF names values clName).1 < 0
    · rw [if_pos h4]; exact .inl ⟨180, rfl, .inl rfl⟩
    rw [if_neg h4]
    by_cases h5 : 1048576 < lengthF (getF names values clName).1
    · rw [if_pos h5]; exact .inl ⟨181, rfl, .inr rfl⟩
    rw [if_neg h5]
    generalize lengthF (getF names values clName).1 = n at *
    refine .inr ⟨_, rfl, ?_, ?_, rfl, rfl, rfl, .inr ⟨by simp only; omega, by simp only; split <;> simp, rfl⟩⟩
    · refine ⟨by simp [rdNil], by simp [rdNil], by simp [rdNil], by simp [rdNil], by simp only; omega, by simp only; omega, by simp [rdNil], by simp [rdNil], ?_, ?_, ?_, ?_⟩
      · simp only; split <;> (intro h; omega)
      · simp only; split
        · intro h; omega
        · intro h; simp only [rdNil]; omega
      · simp only; split <;> (intro h; omega)
      · simp only; split <;> (intro h; omega)
    · simp only; split <;> omega
  rw [if_neg h3]
  exact .inr ⟨_, rfl, plain 1 (-1) (.inr (.inr rfl)), by simp, rfl, rfl, rfl, .inl rfl⟩
theorem rest_feed (r : Rd) (c : UInt8) : (feed r c).1.rest.length ≤ r.rest.length + 1 := by
  have k := (keeps_byte r c).2.2.2
  unfold feed
  split
  · simp
  split
  · split <;> simp
  split
  · simp
  split
  · simp
  · simp only; rw [k]; omega
theorem rest_feeds (l : List UInt8) : ∀ r : Rd, (feeds r l).1.rest.length ≤ r.rest.length + l.length := by
  induction l with
  | nil => intro r; simp [feeds]
  | cons c l ih =>
    intro r
    have h1 := rest_feed r c
    have h2 := ih (feed r c).1
    simp only [feeds, List.length_cons]
    split
    · split <;> (simp only; omega)
    · simp only; omega
theorem out_feeds (l : List UInt8) : ∀ r : Rd, (feeds r l).2.1.length ≤ l.length := by
  induction l with
  | nil => intro r; simp [feeds]
  | cons c l ih =>
    intro r
    have h2 := ih (feed r c).1
    have h1 : (feed r c).2.1.length ≤ 1 := by
      unfold feed
      (repeat' split) <;> simp
    simp only [feeds, List.length_cons]
    split
    · split
      · simp only [List.length_append]; omega
      · simp
    · simp
def LawPost (w : World) (e : Ending) (w' : World) : Prop := e = .returned (.bool true) ∧ Kept [] w w'
set_option maxRecDepth 100000 in
set_option maxHeartbeats 4000000 in
theorem cuts_any (st : Int) (nv vv cv : Value) (names values : List (List UInt8)) (s : List UInt8) (zs : List Int) (w : World) (hn : StrsAt w nv names) (hv : StrsAt w vv values) (hc : IntsAt w cv zs) (hT : Tabs w)
    (hs64 : (s.length : Int) ≤ 9223372036854775807) :
    Calls Tryd.prog 3 #[.agg #[I st, nv, vv], S s, cv] w (LawPost w) := by
  have HI := Lib.hid (And.intro hn (And.intro hv (And.intro hc hT)))
  obtain ⟨zp, zcap, rfl, hzl, hzz, hzc⟩ := hc
  have HZ := Lib.hid (And.intro hzz hzc)
  have hzl' : (zs.length : Int) ≤ 9223372036854775807 := by omega
  clear hn hv hT hzz hzc hzl
  by_cases hlen : (s.length : Int) > 20000
  · go_enter Tryd.func3, Tryd.ntmps3
    go_wp2_with (fail)
    refine (fixed_any _ (HI.out.2.2.2.kept ((Kept.refl _ _).alloc _))).mono ?_
    rintro e w1 ⟨rfl, k1⟩
    go_wp2_with (fail)
    go_ret
    exact ⟨rfl, ((Kept.refl _ _).alloc _).trans' k1⟩
  have hlen' : (s.length : Int) ≤ 20000 := by omega
  clear hlen
  have hA : Kept [] w (w.alloc (.cells #[I st, nv, vv] 24)) := (Kept.refl _ _).alloc _
  have hA0 := heap_new w (.cells #[I st, nv, vv] 24)
  have HA := Lib.hid (And.intro hA hA0)
  clear hA hA0
  rcases newF_cases st names values with ⟨k, hnew, hk⟩ | ⟨R0, hnew, hinv, hst, he0, hr0, ht0, _⟩
  · have HN := Lib.hid hnew
    have HK := Lib.hid hk
    clear hnew hk
    go_enter Tryd.func3, Tryd.ntmps3
    go_wp2_with (fail)
    refine (new_no st nv vv names values _ (HI.out.1.kept HA.out.1) (HI.out.2.1.kept HA.out.1) (HI.out.2.2.2.kept HA.out.1) k HN.out).mono ?_
    rintro e w1 ⟨rfl, k1⟩
    have hb := k1.at HA.out.2 (by simp)
    have c0 : w1.cell? ⟨w.heap.size, 0, none⟩ = some (I st) := by rw [cell_at hb]; rfl
    have c1 : w1.cell? ⟨w.heap.size, 1, none⟩ = some nv := by rw [cell_at hb]; rfl
    have c2 : w1.cell? ⟨w.heap.size, 2, none⟩ = some vv := by rw [cell_at hb]; rfl
    have K1 := HA.out.1.trans' k1
    clear hb k1
    go_wp2_with (fail)
    refine (new_no st nv vv names values _ (HI.out.1.kept K1) (HI.out.2.1.kept K1) (HI.out.2.2.2.kept K1) k HN.out).mono ?_
    rintro e w2 ⟨rfl, k2⟩
    have K2 := K1.trans' k2
    clear k2 c0 c1 c2
    go_wp2_with (fail)
    refine (fixed_any _ (HI.out.2.2.2.kept K2)).mono ?_
    rintro e w3 ⟨rfl, k3⟩
    go_wp2_with (fail)
    go_ret
    exact ⟨rfl, K2.trans' k3⟩
  · have HN := Lib.hid hnew
    have hok : R0.Ok := inv_ok hinv hst
    have HO := Lib.hid (And.intro hok (And.intro he0 (And.intro hr0 (And.intro hinv (And.intro hst ht0)))))
    clear hnew hinv hst he0 hr0 hok ht0
    go_enter Tryd.func3, Tryd.ntmps3
    go_wp2_with (fail)
    refine (new_yes st nv vv names values _ (HI.out.1.kept HA.out.1) (HI.out.2.1.kept HA.out.1) (HI.out.2.2.2.kept HA.out.1) R0 HN.out).mono ?_
    rintro e w1 ⟨b1, hb1, rfl, h1, k1⟩
    have hb := k1.at HA.out.2 (by simp)
    have c0 : w1.cell? ⟨w.heap.size, 0, none⟩ = some (I st) := by rw [cell_at hb]; rfl
    have c1 : w1.cell? ⟨w.heap.size, 1, none⟩ = some nv := by rw [cell_at hb]; rfl
    have c2 : w1.cell? ⟨w.heap.size, 2, none⟩ = some vv := by rw [cell_at hb]; rfl
    have K1 := HA.out.1.trans' k1
    have Z1 : w.heap.size ≤ b1 := Nat.le_trans HA.out.1.size hb1
    have H1 := Lib.hid h1
    have L1 : b1 < w1.heap.size := lt_of_block h1
    clear hb k1 hb1 h1
    go_wp2_with (fail)
    refine (new_yes st nv vv names values _ (HI.out.1.kept K1) (HI.out.2.1.kept K1) (HI.out.2.2.2.kept K1) R0 HN.out).mono ?_
    rintro e w2 ⟨b2, hb2, rfl, h2, k2⟩
    have K2 := K1.trans' k2
    have Z2 : w.heap.size ≤ b2 := Nat.le_trans K1.size hb2
    have N12 : b1 ≠ b2 := by omega
    have H2 := Lib.hid (And.intro (H1.out.kept k2 (by simp)) (And.intro h2 N12))
    clear k2 c0 c1 c2 h2 N12 H1 hb2
    go_wp2_with (fail)
    obtain ⟨R1, o1, k1, hw1⟩ : ∃ R1 o1 k1, writeF R0 s = (R1, o1, k1) := ⟨_, _, _, rfl⟩
    have HW1 := Lib.hid hw1
    clear hw1
    refine (write_as b1 s R0 R1 o1 k1 w2 H2.out.1 HO.out.1 (by rw [HO.out.2.2.1]; simp; omega) HW1.out).mono ?_
    rintro e w3 ⟨rfl, h1, k3⟩
    have K3 := K2.new1 k3 Z1
    have H3 := Lib.hid (And.intro h1 (And.intro (H2.out.2.1.kept k3 (by simp; exact H2.out.2.2.symm)) H2.out.2.2))
    clear h1 k3 H2
    go_wp2_with (fail)
    obtain ⟨M, hM1, hM2, hM3⟩ : ∃ M : Nat, M ≤ zs.length ∧ M ≤ 99 ∧ (M = zs.length ∨ M = 99) := by
      by_cases h : zs.length ≤ 99
      · exact ⟨zs.length, Nat.le_refl _, h, .inl rfl⟩
      · exact ⟨99, by omega, Nat.le_refl _, .inr rfl⟩
    go_loopw [12, 13, 14] (fun t x i wr => ∃ (n : Nat) (pre suf out : List UInt8) (r : Rd), s = pre ++ suf ∧ t = S out ∧ x = S suf ∧ i = I n ∧ n ≤ M + 1 ∧ (n = M + 1 → suf = []) ∧ feeds R0 pre = (r, out, 0) ∧ RdAt wr b2 r ∧ RdAt wr b1 R1 ∧ Kept [] w wr) (fun _ _ i _ => M + 1 - (intOf i).toNat)
    case atStart => exact ⟨0, [], s, [], R0, rfl, rfl, rfl, rfl, by omega, by intro h; omega, rfl, H3.out.2.1, H3.out.1, K3⟩
    case round =>
      obtain ⟨n, pre, suf, out, r, hcat, rfl, rfl, rfl, hn, hend, hf, hr2, hr1, hk⟩ := hrel
      have hlen2 : pre.length + suf.length = s.length := by rw [hcat]; simp
      have hsuf : (suf.length : Int) ≤ 20000 := by omega
      have hpre : (pre.length : Int) ≤ 20000 := by omega
      have hrst := rest_feeds pre R0
      rw [hf] at hrst
      simp only at hrst
      rw [HO.out.2.2.1] at hrst
      simp only [List.length_nil, Nat.zero_add] at hrst
      have hre : r.e = 0 := by rw [(feeds_e hf).1]; exact HO.out.2.1
      have hob := out_feeds pre R0
      rw [hf] at hob
      simp only at hob
      have hiv := inv_feeds pre HO.out.2.2.2.1 HO.out.2.2.2.2.1 (by rw [hf])
      rw [hf] at hiv
      have HR := Lib.hid (And.intro hcat (And.intro hf (And.intro hr2 (And.intro hr1 (And.intro hk (And.intro hre (And.intro hiv hlen2)))))))
      have HE := Lib.hid hend
      clear hcat hf hr2 hr1 hk hre hiv hend
      by_cases hnM : n ≤ M
      · have hc1 : (n : Int) ≤ zs.length := by omega
        have hc2 : (n : Int) < 100 := by omega
        by_cases hlt : n < M
        · have hzn : n < zs.length := by omega
          obtain ⟨zb, zo, rfl, hcell⟩ := HZ.out.2 (by intro h; rw [h] at hzn; simp at hzn)
          have hz1 := hcell n hzn
          have hz2 := HR.out.2.2.2.2.1.cell (World.block_lt_of_cell? w _ hz1) (by simp)
          rw [hz1] at hz2
          obtain ⟨hzlo, hzhi⟩ := HZ.out.1 zs[n] (List.getElem_mem _)
          generalize zs[n] = z at *
          have hz3 := World.block_lt_of_cell? w _ hz1
          clear hcell hz1
          have hc3 : (n : Int) < zs.length := by omega
          have hc4 : (n : Int) < 99 := by omega
          obtain ⟨m, hm, hm2⟩ : ∃ m : Nat, min (z % 1024) (suf.length : Int) = (m : Int) ∧ m ≤ suf.length := by
            rw [Int.min_def]
            split
            · exact ⟨(z % 1024).toNat, by omega, by omega⟩
            · exact ⟨suf.length, rfl, Nat.le_refl _⟩
          go_wp2_with (fail)
          have hml : (suf.take m).length = m := by simp; omega
          obtain ⟨r2, o2, k2, hw2⟩ : ∃ r2 o2 k2, feeds r (suf.take m) = (r2, o2, k2) := ⟨_, _, _, rfl⟩
          have ho2 := out_feeds (suf.take m) r
          rw [hw2, hml] at ho2
          simp only at ho2
          have HW2 := Lib.hid hw2
          have HML := Lib.hid hml
          clear hw2 hml
          have hcat2 : s = (pre ++ suf.take m) ++ suf.drop m := by rw [List.append_assoc]; rw [List.take_append_drop]; exact HR.out.1
          have HCAT := Lib.hid hcat2
          clear hcat2
          by_cases hk2 : k2 = 0
          · subst hk2
            refine (write_as b2 _ r r2 o2 0 wr HR.out.2.2.1 (inv_ok HR.out.2.2.2.2.2.2.1.1 HR.out.2.2.2.2.2.2.1.2) (by rw [HML.out]; omega) (write_ok HR.out.2.2.2.2.2.1 HW2.out)).mono ?_
            rintro e w4 ⟨rfl, h2, k4⟩
            have HQ := Lib.hid (And.intro h2 (And.intro (HR.out.2.2.2.1.kept k4 (by simp; exact H3.out.2.2)) (HR.out.2.2.2.2.1.new1 k4 Z2)))
            clear h2 k4
            go_wp2_with (fail)
            have hg := feeds_go HR.out.2.1 HW2.out
            rw [if_pos rfl] at hg
            exact ⟨⟨n + 1, pre ++ suf.take m, suf.drop m, out ++ o2, r2, HCAT.out, rfl, rfl, by go_num, by omega, fun h => by omega, hg, HQ.out.1, HQ.out.2.1, HQ.out.2.2⟩, by simp [intOf]; omega⟩
          · have hkb : (k2 != 0) = true := by simpa using hk2
            have HK2 := Lib.hid hk2
            have hkk : k1 = k2 := by
              have h1 := fed_err HR.out.2.1 (suf.take m) (suf.drop m) (k := k2) (by rw [HW2.out]) hk2
              rw [← HCAT.out] at h1
              have h3 := write_err HO.out.2.1 (show feeds R0 s = ((feeds R0 s).1, (feeds R0 s).2.1, k2) from by rw [← h1]) hk2
              rw [HW1.out] at h3
              simp only [Prod.mk.injEq] at h3
              exact h3.2.2
            have hkkb : (k2 == k1) = true := by simp [hkk]
            clear hk2 hkk
            refine (write_as b2 _ r _ [] k2 wr HR.out.2.2.1 (inv_ok HR.out.2.2.2.2.2.2.1.1 HR.out.2.2.2.2.2.2.1.2) (by rw [HML.out]; omega) (write_err HR.out.2.2.2.2.2.1 HW2.out HK2.out)).mono ?_
            rintro e w4 ⟨rfl, h2, k4⟩
            have HQ := Lib.hid (HR.out.2.2.2.2.1.new1 k4 Z2)
            clear h2 k4
            go_wp2_with (fail)
            refine (fixed_any _ (HI.out.2.2.2.kept HQ.out)).mono ?_
            rintro e w5 ⟨rfl, k5⟩
            go_wp2_with (fail)
            go_ret
            exact ⟨rfl, HQ.out.trans' k5⟩
        · have hnM' : n = M := by omega
          obtain ⟨m, hm, hm2⟩ : ∃ m : Nat, m = suf.length ∧ m ≤ suf.length := ⟨_, rfl, Nat.le_refl _⟩
          have HMS := Lib.hid hm
          clear hm
          have hcs : ¬ (n : Int) < zs.length ∨ ((n : Int) < zs.length ∧ ¬ (n : Int) < 99) := by omega
          rcases hcs with hc3 | ⟨hc3, hc4⟩
          all_goals
            go_wp2_with (fail)
            have hml : (suf).length = m := HMS.out.symm
            obtain ⟨r2, o2, k2, hw2⟩ : ∃ r2 o2 k2, feeds r (suf) = (r2, o2, k2) := ⟨_, _, _, rfl⟩
            have ho2 := out_feeds (suf) r
            rw [hw2, hml] at ho2
            simp only at ho2
            have HW2 := Lib.hid hw2
            have HML := Lib.hid hml
            clear hw2 hml
            have hcat2 : s = (pre ++ suf) ++ ([] : List UInt8) := by rw [List.append_assoc]; rw [List.append_nil]; exact HR.out.1
            have HCAT := Lib.hid hcat2
            clear hcat2
            by_cases hk2 : k2 = 0
            · subst hk2
              refine (write_as b2 _ r r2 o2 0 wr HR.out.2.2.1 (inv_ok HR.out.2.2.2.2.2.2.1.1 HR.out.2.2.2.2.2.2.1.2) (by rw [HML.out]; omega) (write_ok HR.out.2.2.2.2.2.1 HW2.out)).mono ?_
              rintro e w4 ⟨rfl, h2, k4⟩
              have HQ := Lib.hid (And.intro h2 (And.intro (HR.out.2.2.2.1.kept k4 (by simp; exact H3.out.2.2)) (HR.out.2.2.2.2.1.new1 k4 Z2)))
              clear h2 k4
              go_wp2_with (fail)
              have hg := feeds_go HR.out.2.1 HW2.out
              rw [if_pos rfl] at hg
              exact ⟨⟨n + 1, pre ++ suf, ([] : List UInt8), out ++ o2, r2, HCAT.out, rfl, rfl, by go_num, by omega, fun _ => rfl, hg, HQ.out.1, HQ.out.2.1, HQ.out.2.2⟩, by simp [intOf]; omega⟩
            · have hkb : (k2 != 0) = true := by simpa using hk2
              have HK2 := Lib.hid hk2
              have hkk : k1 = k2 := by
                have h1 := fed_err HR.out.2.1 (suf) (([] : List UInt8)) (k := k2) (by rw [HW2.out]) hk2
                rw [← HCAT.out] at h1
                have h3 := write_err HO.out.2.1 (show feeds R0 s = ((feeds R0 s).1, (feeds R0 s).2.1, k2) from by rw [← h1]) hk2
                rw [HW1.out] at h3
                simp only [Prod.mk.injEq] at h3
                exact h3.2.2
              have hkkb : (k2 == k1) = true := by simp [hkk]
              clear hk2 hkk
              refine (write_as b2 _ r _ [] k2 wr HR.out.2.2.1 (inv_ok HR.out.2.2.2.2.2.2.1.1 HR.out.2.2.2.2.2.2.1.2) (by rw [HML.out]; omega) (write_err HR.out.2.2.2.2.2.1 HW2.out HK2.out)).mono ?_
              rintro e w4 ⟨rfl, h2, k4⟩
              have HQ := Lib.hid (HR.out.2.2.2.2.1.new1 k4 Z2)
              clear h2 k4
              go_wp2_with (fail)
              refine (fixed_any _ (HI.out.2.2.2.kept HQ.out)).mono ?_
              rintro e w5 ⟨rfl, k5⟩
              go_wp2_with (fail)
              go_ret
              exact ⟨rfl, HQ.out.trans' k5⟩
      · have hnM' : n = M + 1 := by omega
        have hsn : suf = [] := HE.out hnM'
        subst hsn
        have hps : pre = s := by have := HR.out.1; rw [List.append_nil] at this; exact this.symm
        have hw1' : writeF R0 s = (r, out, 0) := by rw [← hps]; exact write_ok HO.out.2.1 HR.out.2.1
        rw [HW1.out] at hw1'
        simp only [Prod.mk.injEq] at hw1'
        obtain ⟨rfl, rfl, rfl⟩ := hw1'
        clear hps HE
        have hcase : ¬ (n : Int) ≤ zs.length ∨ ((n : Int) ≤ zs.length ∧ ¬ (n : Int) < 100) := by omega
        clear hnM' hnM hlen2 hn hM1 hM2 hM3 hob hrst hpre hsuf
        rcases hcase with hc1 | ⟨hc1, hc2⟩
        all_goals
          go_wp2_with (fail)
          refine (done_any b2 _ wr HR.out.2.2.1).mono ?_
          rintro e w4 ⟨rfl, rfl⟩
          go_wp2_with (fail)
          refine (done_any b1 _ wr HR.out.2.2.2.1).mono ?_
          rintro e w4 ⟨rfl, rfl⟩
          go_wp2_with (fail)
          refine (rest_any b2 _ wr HR.out.2.2.1).mono ?_
          rintro e w4 ⟨rfl, rfl⟩
          go_wp2_with (fail)
          refine (rest_any b1 _ wr HR.out.2.2.2.1).mono ?_
          rintro e w4 ⟨rfl, rfl⟩
          go_wp2_with (fail)
          refine (told_any b2 _ wr HR.out.2.2.1).mono ?_
          rintro e w4 ⟨rfl, rfl⟩
          go_wp2_with (fail)
          refine (told_any b1 _ wr HR.out.2.2.2.1).mono ?_
          rintro e w4 ⟨rfl, rfl⟩
          go_wp2_with (fail)
          refine (close_any b2 _ wr HR.out.2.2.1).mono ?_
          rintro e w4 ⟨rfl, h2, k4⟩
          have HQ := Lib.hid (And.intro (HR.out.2.2.2.1.kept k4 (by simp; exact H3.out.2.2)) (HR.out.2.2.2.2.1.new1 k4 Z2))
          clear h2 k4
          go_wp2_with (fail)
          refine (close_any b1 _ w4 HQ.out.1).mono ?_
          rintro e w5 ⟨rfl, h2, k5⟩
          have HQ2 := Lib.hid (HQ.out.2.new1 k5 Z1)
          clear h2 k5
          go_wp2_with (fail)
          refine (fixed_any _ (HI.out.2.2.2.kept HQ2.out)).mono ?_
          rintro e w6 ⟨rfl, k6⟩
          go_wp2_with (fail)
          go_ret
          exact ⟨rfl, HQ2.out.trans' k6⟩
end Go.Proofs.YtamihbcgiaeacaaDoor
