/- Walks and lemmas on the program of this seat, used by its statements; each theorem bears its own conditions. -/
import Derived.Test.YtgdncdhalnijcaaGreatDoorMDB
import Derived.Test.YtgdncdhalnijcaaGreatDoorMCX
import Derived.Handy
import Derived.Recover
import Derived.IntWalk
import Derived.Deep.CutRange
import Derived.OwnWalk
import Derived.Deep.AppendLies
import Derived.Deep.RegionLaw
import Derived.Deep.RegionHeld3
import Derived.StillTailTactics
import Derived.RegionTactic
import Derived.ChangeAlike
namespace Go.Proofs.YtgdncdhalnijcaaGreatDoor
open Go.RowKit
set_option linter.unusedVariables false
set_option linter.unusedSimpArgs false
section
namespace CL
set_option maxHeartbeats 8000000
set_option maxRecDepth 100000
/-! ### masks -/
@[go_sem] theorem i64_and7 (n : Int) : bits .and .i64 n 7 = n % 8 := by
  have h : (BitVec.ofInt 64 7).toNat = 2 ^ 3 - 1 := by decide
  have key : (BitVec.ofInt 64 n &&& BitVec.ofInt 64 7).toNat = (n % ((2 ^ 64 : Nat) : Int)).toNat % 2 ^ 3 := by
    rw [BitVec.toNat_and, BitVec.toNat_ofInt, h, Nat.and_two_pow_sub_one_eq_mod]
  show IntKind.i64.wrap ((BitVec.ofInt 64 n &&& BitVec.ofInt 64 7).toNat : Nat) = n % 8
  rw [key, IntKind.wrap_i64]
  omega
@[go_sem] theorem i64_and255 (n : Int) : bits .and .i64 n 255 = n % 256 := by
  have h : (BitVec.ofInt 64 255).toNat = 2 ^ 8 - 1 := by decide
  have key : (BitVec.ofInt 64 n &&& BitVec.ofInt 64 255).toNat = (n % ((2 ^ 64 : Nat) : Int)).toNat % 2 ^ 8 := by
    rw [BitVec.toNat_and, BitVec.toNat_ofInt, h, Nat.and_two_pow_sub_one_eq_mod]
  show IntKind.i64.wrap ((BitVec.ofInt 64 n &&& BitVec.ofInt 64 255).toNat : Nat) = n % 256
  rw [key, IntKind.wrap_i64]
  omega
@[go_sem] theorem i64_and511 (n : Int) : bits .and .i64 n 511 = n % 512 := by
  have h : (BitVec.ofInt 64 511).toNat = 2 ^ 9 - 1 := by decide
  have key : (BitVec.ofInt 64 n &&& BitVec.ofInt 64 511).toNat = (n % ((2 ^ 64 : Nat) : Int)).toNat % 2 ^ 9 := by
    rw [BitVec.toNat_and, BitVec.toNat_ofInt, h, Nat.and_two_pow_sub_one_eq_mod]
  show IntKind.i64.wrap ((BitVec.ofInt 64 n &&& BitVec.ofInt 64 511).toNat : Nat) = n % 512
  rw [key, IntKind.wrap_i64]
  omega
@[go_sem] theorem i64_and1023 (n : Int) : bits .and .i64 n 1023 = n % 1024 := by
  have h : (BitVec.ofInt 64 1023).toNat = 2 ^ 10 - 1 := by decide
  have key : (BitVec.ofInt 64 n &&& BitVec.ofInt 64 1023).toNat = (n % ((2 ^ 64 : Nat) : Int)).toNat % 2 ^ 10 := by
    rw [BitVec.toNat_and, BitVec.toNat_ofInt, h, Nat.and_two_pow_sub_one_eq_mod]
  show IntKind.i64.wrap ((BitVec.ofInt 64 n &&& BitVec.ofInt 64 1023).toNat : Nat) = n % 1024
  rw [key, IntKind.wrap_i64]
  omega
/-! ### A connection, walked -/
structure Sv where
  ki : Int
  cu : Int
  pi : Int
  ah : Int
  be : Int
def Sv.vals (s : Sv) : Array Value := #[I s.ki, I s.cu, I s.pi, I s.ah, I s.be]
def clampT (n : Int) : Int := max 0 (min n 2000)
def cutN (s : Sv) (n : Nat) : Nat := if 0 ≤ s.cu ∧ s.ki ≠ 3 then min s.cu.toNat n else n
def pieN (s : Sv) : Nat := (max 1 (s.pi % 256)).toNat
def playedF (c : Cl) (A : List UInt8) (s : Sv) : Cl × List UInt8 :=
  if (outF c).2 = [] then ((outF c).1, []) else playC c ((respF s.ki A c.got.toNat).take (cutN s (respF s.ki A c.got.toNat).length)) (pieN s) (clampT s.ah) (clampT s.be)
theorem played_ok {c : Cl} (h : c.Ok) (A : List UInt8) (s : Sv) : (playedF c A s).1.Ok := by
  unfold playedF
  split
  · exact h.out
  · unfold playC
    exact ((run_ok_same _ _ _ _ (h.out.tick _)).1.tick _).lost
/-- A client at hand beside a block that stays. -/
structure At1 (w0 : World) (g : Nat) (o : Obj) (w : World) (b bb : Nat) (c : Cl) : Prop where
  a : At0 w0 w b bb c
  gb : g ≠ b
  gbb : g ≠ bb
  blk : w.heap[g]? = some o
section
variable {w0 w w' : World} {g : Nat} {o : Obj} {b bb b2 : Nat} {c c' : Cl}
theorem At1.go (A : At1 w0 g o w b bb c) (k : Kept [b, bb] w w') (h : ClAt w' b b2 c') (hb : b2 = bb ∨ w.heap.size ≤ b2) (hl : b2 < w'.heap.size) (ok : c'.Ok) : At1 w0 g o w' b b2 c' :=
  ⟨A.a.go k h hb hl ok, A.gb, by rcases hb with rfl | hb; exact A.gbb; (have := lt_of_block A.blk; omega), k.at A.blk (by simp; exact ⟨A.gb, A.gbb⟩)⟩
theorem At1.same (A : At1 w0 g o w b bb c) (k : Kept [] w w') : At1 w0 g o w' b bb c := ⟨A.a.same k, A.gb, A.gbb, k.at A.blk (by simp)⟩
def CStep1 (w0 : World) (g : Nat) (o : Obj) (b : Nat) (v : Value) (c : Cl) (e : Ending) (w' : World) : Prop := e = .returned v ∧ ∃ b2, At1 w0 g o w' b b2 c
theorem At1.step {v : Value} {e : Ending} (A : At1 w0 g o w b bb c) (h : ClPost v b bb w c' e w') (ok : c'.Ok) : CStep1 w0 g o b v c' e w' :=
  ⟨h.1, bb, A.go h.2.2 h.2.1 (.inl rfl) (by have := A.a.li.lt; have := h.2.2.size; omega) ok⟩
theorem At1.out (A : At1 w0 g o w b bb c) : Calls Tryz.prog 16 #[Ptr b] w (CStep1 w0 g o b (S (outF c).2) (outF c).1) :=
  (out_any b bb c w A.a.cl A.a.ok.bd A.a.li.pt ⟨A.a.ok.ho, A.a.ok.ta⟩).mono fun _ _ h => A.step h A.a.ok.out
theorem At1.tick (A : At1 w0 g o w b bb c) (n : Int) (hn : n ≤ 9223372036854775807) : Calls Tryz.prog 13 #[Ptr b, I n] w (CStep1 w0 g o b (.tuple #[]) (tickF c n)) :=
  (tick_any b bb c n w A.a.cl A.a.ok.bd hn).mono fun _ _ h => A.step h (A.a.ok.tick n)
theorem At1.lost (A : At1 w0 g o w b bb c) : Calls Tryz.prog 18 #[Ptr b] w (CStep1 w0 g o b (.tuple #[]) (lostF c)) :=
  (lost_any b bb c w A.a.cl A.a.ok).mono fun _ _ h => A.step h A.a.ok.lost
theorem At1.inn (A : At1 w0 g o w b bb c) (s : List UInt8) (hs : s.length ≤ 999000000) : Calls Tryz.prog 17 #[Ptr b, S s] w (CStep1 w0 g o b (S (inF c s).2) (inF c s).1) :=
  (in_any b bb c s w A.a.cl A.a.ok A.a.li hs _ rfl).mono fun _ _ h => by
    obtain ⟨h1, b2, hb, hl, h, k⟩ := h
    exact ⟨h1, b2, A.go k h hb hl (A.a.ok.inn s)⟩
end
/-! ### The lengths of responses -/
theorem partL_le (g n : Nat) (hg : g < n) (hn : n ≤ 2000) : (partH g n).length ≤ 300 := by
  have := dd_length g (by omega)
  have := dd_length (n - 1) (by omega)
  have := dd_length n (by omega)
  have := dd_length (n - g) (by omega)
  simp [partH, l206, nl, fldL, nCR, nCL, spanL, bytesL]; omega
theorem resp_le (k : Int) (A : List UInt8) (g : Nat) (h : A.length ≤ 2000) : (respF k A g).length ≤ 20000 := by
  have hw : (wholeH A.length).length ≤ 300 := by
    have := dd_length A.length (by omega)
    simp [wholeH, l200, nl, fldL, nCL]; omega
  have hc : (chunksB A).length ≤ 30 * 230 + 5 := by
    have h1 := chunkPre_le A ((A.length + 8) / 9)
    have h2 : (A.length + 8) / 9 ≤ 230 := by omega
    unfold chunksB
    rw [List.length_append]
    have : zeroL.length = 5 := rfl
    omega
  unfold respF
  split
  · rename_i h1
    have := partL_le g A.length h1.2 h
    rw [List.length_append, List.length_drop]; omega
  split
  · rw [List.length_append]; have : chunkH.length ≤ 100 := by decide
    omega
  split
  · rw [List.length_append]; have : openH.length ≤ 100 := by decide
    omega
  split
  · have : busyH.length ≤ 100 := by decide
    omega
  · rw [List.length_append]; omega
abbrev SvT : TypeId := 32
theorem run_take (f : Nat) (c : Cl) (p : Nat) (s : List UInt8) (hs : s ≠ []) : runP (f + 1) c p s = ((runP f (inF c (s.take p)).1 p (s.drop p)).1, (inF c (s.take p)).2 ++ (runP f (inF c (s.take p)).1 p (s.drop p)).2) := by
  conv => lhs; unfold runP
  rw [if_neg hs]
set_option maxRecDepth 100000 in
set_option maxHeartbeats 40000000 in
theorem played_any {w0 w : World} {b bb : Nat} {c : Cl} (AA : At0 w0 w b bb c) (hev : c.Ev) (A : List UInt8) (hA : A.length ≤ 2000) (s : Sv) (hpi : -9223372036854775808 ≤ s.pi ∧ s.pi ≤ 9223372036854775807) (hcu : s.cu ≤ 9223372036854775807)
    (x : Cl × List UInt8) (hx : playedF c A s = x) : Calls Tryz.prog 10 #[Ptr b, S A, .agg s.vals] w (CStep w0 b (S x.2) x.1) := by
  obtain ⟨sk, cu, pi, ah, be⟩ := s
  obtain ⟨hp1, hp2⟩ := hpi
  simp only at hp1 hp2 hcu
  have HX := Lib.hid hx
  obtain ⟨O, hO⟩ : ∃ O, (.cells #[I sk, I cu, I pi, I ah, I be] SvT (0, 0) : Obj) = O := ⟨_, rfl⟩
  have hk : Kept [] w (w.alloc O) := (Kept.refl _ _).alloc _
  have HA1 : Hid (At1 w0 w.heap.size O (w.alloc O) b bb c) := Lib.hid ⟨AA.same hk, by have := AA.cl.lt; omega, by have := AA.li.lt; omega, heap_new w O⟩
  have HC : Hid (∀ W : World, W.heap[w.heap.size]? = some O → W.cell? ⟨w.heap.size, 0, none⟩ = some (I sk) ∧ W.cell? ⟨w.heap.size, 1, none⟩ = some (I cu) ∧ W.cell? ⟨w.heap.size, 2, none⟩ = some (I pi) ∧ W.cell? ⟨w.heap.size, 3, none⟩ = some (I ah) ∧ W.cell? ⟨w.heap.size, 4, none⟩ = some (I be)) := Lib.hid fun W h => by
    subst hO
    refine ⟨?_, ?_, ?_, ?_, ?_⟩ <;> (rw [cell_at h]; rfl)
  have hgb := AA.ok.bd
  obtain ⟨g, hg⟩ : ∃ g : Nat, c.got = g := ⟨c.got.toNat, by have := hgb.f0; have := hgb.g0; omega⟩
  have hg2 : g ≤ 1048576 := by have := hgb.g1; have := hgb.l1; omega
  obtain ⟨r, hr⟩ : ∃ r, respF sk A g = r := ⟨_, rfl⟩
  have hrl := resp_le sk A g hA
  rw [hr] at hrl
  have HR := Lib.hid (And.intro hr (And.intro hg hg2))
  have hrI : (r.length : Int) ≤ 20000 := by omega
  obtain ⟨d, o, hdo⟩ : ∃ d o, outF c = (d, o) := ⟨_, _, rfl⟩
  have hdg : d.got = c.got := by have := (out_same c); have h : (outF c).1.got = c.got := by unfold outF; split <;> rfl
                                 rw [hdo] at h; exact h
  have hde := (out_ev hev).1
  rw [hdo] at hde
  have HDO := Lib.hid (And.intro hdo hdg)
  have HDE : Hid d.Ev := Lib.hid hde
  clear hde hev
  have HAL := Lib.hid hA
  clear hx hk AA hgb hg hg2 hr hrl hdo hdg hA
  have hO' : (w.alloc O) = (w.alloc (.cells #[I sk, I cu, I pi, I ah, I be] SvT)) := by rw [← hO]
  have HO := Lib.hid hO'
  clear hO hO'
  go_enter Tryz.func10, Tryz.ntmps10
  go_wp2_with (fail)
  have hst := HA1.out.out
  rw [HO.out, HDO.out.1] at hst
  refine hst.mono ?_
  clear hst
  rintro e w2 ⟨rfl, b2, A2⟩
  have HA2 := Lib.hid A2
  obtain ⟨z0, z1, z2, z3, z4⟩ := HC.out _ A2.blk
  clear A2 HA1
  by_cases hoe : o = []
  · have hX : Hid (x = (d, [])) := Lib.hid (by rw [← HX.out]; unfold playedF; rw [HDO.out.1]; simp [hoe])
    subst hoe
    go_wp2_with (fail)
    go_ret
    rw [hX.out]
    exact ⟨rfl, b2, HA2.out.a⟩
  have ho1 : (o == []) = false := by simpa using hoe
  have ho2 : o.isEmpty = false := by simpa using hoe
  obtain ⟨n, hn⟩ : ∃ n, cutN ⟨sk, cu, pi, ah, be⟩ r.length = n := ⟨_, rfl⟩
  obtain ⟨p, hp⟩ : ∃ p, pieN ⟨sk, cu, pi, ah, be⟩ = p := ⟨_, rfl⟩
  have hX : Hid (x = playC c (r.take n) p (clampT ah) (clampT be)) := Lib.hid (by
    rw [← HX.out, ← hn, ← hp]; unfold playedF
    rw [HDO.out.1, if_neg hoe, HR.out.2.1, Int.toNat_natCast, HR.out.1])
  have hnl : n ≤ r.length := by rw [← hn]; unfold cutN; split <;> omega
  have hpl : 1 ≤ p ∧ p ≤ 255 ∧ (p : Int) = max 1 (pi % 256) := by rw [← hp]; unfold pieN; simp only; omega
  obtain ⟨p1, p2, p3⟩ := hpl
  have HN := Lib.hid hn
  have HP3 := Lib.hid p3
  clear hoe hp hn p3 HX
  have HRS : Hid (∀ W, Calls Tryz.prog 14 #[I sk, S A, I g] W fun e w' => e = .returned (S r) ∧ Kept [] W w') := Lib.hid fun W => response_any sk A g W HAL.out HR.out.2.2 r HR.out.1
  have HGT : Hid (∀ W (h : ClAt W b b2 d), Calls Tryz.prog 11 #[Ptr b] W fun e w' => e = .returned (I g) ∧ w' = W) := Lib.hid fun W h => by
    have := got_any b b2 d W h
    rwa [HDO.out.2, HR.out.2.1] at this
  go_upto_region 3 with (fail)
  go_cut [7] from 15 to 20 (fun v wx => v = S r ∧ At1 w0 w.heap.size O wx b b2 d)
  case first =>
    go_region_with (first
      | (go_at_call 11; (with_reducible refine (HGT.out _ HA2.out.a.cl.drew).mono ?_); rintro e w3 ⟨rfl, rfl⟩)
      | (go_at_call 14; (with_reducible refine (HRS.out _).mono ?_); rintro e w3 ⟨rfl, k3⟩))
    all_goals
      go_wp2
      go_meet
      exact ⟨rfl, HA2.out.same ((Kept.refl _ _).drew.trans' k3)⟩
  case rest =>
  obtain ⟨rfl, A3⟩ := hcut
  obtain ⟨W3, hW3⟩ : ∃ W3, W3 = wc := ⟨_, rfl⟩
  subst hW3
  clear z0 z1 z2 z3 z4 HA2 HGT HRS
  obtain ⟨z0, z1, z2, z3, z4⟩ := HC.out _ A3.blk
  have HA3 := Lib.hid A3
  clear A3
  obtain ⟨bz, hbz⟩ : ∃ bz : Bool, bz = (decide (0 ≤ cu) && (sk != 3)) := ⟨_, rfl⟩
  have hnb : (bz = true → min cu (r.length : Int) = n ∧ 0 ≤ cu) ∧ (bz = false → (r.length : Int) = n) := by
    have hn := HN.out
    unfold cutN at hn
    simp only at hn
    constructor
    · intro h
      rw [h] at hbz
      have h2 := hbz.symm
      simp only [Bool.and_eq_true, decide_eq_true_eq, bne_iff_ne] at h2
      rw [if_pos h2] at hn
      exact ⟨by omega, h2.1⟩
    · intro h
      rw [h] at hbz
      rw [if_neg (by intro h2; have h3 := hbz.symm; simp [h2.1, h2.2] at h3)] at hn
      omega
  have HBZ := Lib.hid hbz
  have HNB := Lib.hid hnb
  clear hbz hnb
  go_upto_region 5 with (fail)
  go_cut [30] from 23 to 30 (fun v wx => v = .bool bz ∧ W3 = wx)
  case first =>
    have hb := HBZ.out
    by_cases h0 : 0 ≤ cu
    · have hd : decide (0 ≤ cu) = true := decide_eq_true h0
      rw [hd, Bool.true_and] at hb
      have HB := Lib.hid hb
      clear hb
      go_wp2
      all_goals (go_meet; exact ⟨by rw [HB.out], rfl⟩)
    · have hd : decide (0 ≤ cu) = false := decide_eq_false h0
      rw [hd, Bool.false_and] at hb
      subst hb
      clear h0
      go_wp2
      all_goals (go_meet; exact ⟨rfl, rfl⟩)
  case rest =>
  obtain ⟨rfl, hwc⟩ := hcut
  subst hwc
  go_upto_if 30 with (fail)
  go_cut [8] from 31 to 35 (fun v wx => v = I n ∧ W3 = wx)
  case first =>
    cases bz with
    | true =>
      obtain ⟨hm, hm2⟩ := HNB.out.1 rfl
      go_wp2
      all_goals (go_meet; exact ⟨rfl, rfl⟩)
    | false =>
      have HM := Lib.hid (HNB.out.2 rfl)
      go_wp2
      all_goals (go_meet; exact ⟨by rw [HM.out], rfl⟩)
  case rest =>
  obtain ⟨rfl, hwc⟩ := hcut
  subst hwc
  have hp3 : max 1 (pi % 256) = (p : Int) := HP3.out.symm
  obtain ⟨R, hR⟩ : ∃ R, r.take n = R := ⟨_, rfl⟩
  have hRl : R.length = n := by rw [← hR]; simp; omega
  have hnI : (n : Int) ≤ r.length := by omega
  have hpI : (1 : Int) ≤ p := by omega
  have hpI2 : (p : Int) ≤ 255 := by omega
  have HRR := Lib.hid (And.intro hR hRl)
  clear hR hRl
  rw [HRR.out.1] at hX
  obtain ⟨ca, hca⟩ : ∃ ca, tickF d (clampT ah) = ca := ⟨_, rfl⟩
  obtain ⟨cf, hcf⟩ : ∃ cf, runP n ca p R = cf := ⟨_, rfl⟩
  have hX2 : Hid (x = (lostF (tickF cf.1 (clampT be)), cf.2)) := Lib.hid (by
    rw [hX.out]; unfold playC
    rw [HDO.out.1]
    simp only
    rw [hca, HRR.out.2, hcf])
  have HCA := Lib.hid (And.intro hca hcf)
  clear hca hcf hX
  have hTA := HA3.out.tick (max 0 (min ah 2000)) (by omega)
  go_wp2_with (fail)
  refine hTA.mono ?_
  clear hTA
  rintro e w4 ⟨rfl, b4, A4⟩
  have A4' : At1 w0 w.heap.size O w4 b b4 ca := by have := HCA.out.1; unfold clampT at this; rw [this] at A4; exact A4
  clear A4 z0 z1 z2 z3 z4 HA3
  obtain ⟨z0, z1, z2, z3, z4⟩ := HC.out _ A4'.blk
  have HA4 := Lib.hid A4'
  have htk := tick_ev HDE.out (clampT ah)
  rw [HCA.out.1] at htk
  have hcag : ca.Ev ∧ ca.got = g := ⟨htk.1, by rw [htk.2.1, HDO.out.2, HR.out.2.1]⟩
  have HCE := Lib.hid hcag
  clear A4' htk hcag
  go_wp2_with (fail)
  go_loopw [9, 11] (fun v9 v11 wr => ∃ (j f : Nat) (t : List UInt8) (cx : Cl) (bx : Nat), v9 = S t ∧ v11 = I (j * p : Nat) ∧ At1 w0 w.heap.size O wr b bx cx ∧ cx.Ev ∧ cx.got = (g : Int) + t.length ∧ (R.drop (j * p)).length ≤ f ∧ cf.1 = (runP f cx p (R.drop (j * p))).1 ∧ cf.2 = t ++ (runP f cx p (R.drop (j * p))).2) (fun _ v11 _ => n - (intOf v11).toNat)
  case atStart =>
    refine ⟨0, n, [], ca, b4, rfl, by simp, HA4.out, HCE.out.1, by simp [HCE.out.2], by simp [HRR.out.2], ?_, ?_⟩
    · rw [Nat.zero_mul, List.drop_zero, HCA.out.2]
    · rw [Nat.zero_mul, List.drop_zero, HCA.out.2]; rfl
  case round =>
    obtain ⟨j, f, t, cx, bx, rfl, rfl, A5, hev, hgx, hfl, hc1, hc2⟩ := hrel
    obtain ⟨m, hm⟩ : ∃ m, j * p = m := ⟨_, rfl⟩
    have hm1 : (j + 1) * p = m + p := by rw [Nat.add_mul, Nat.one_mul, hm]
    rw [hm] at hfl hc1 hc2 ⊢
    have htl : t.length ≤ 1048576 := by have h1 := A5.a.ok.bd.g1; have h2 := A5.a.ok.bd.l1; omega
    obtain ⟨z0, z1, z2, z3, z4⟩ := HC.out _ A5.blk
    have HA5 := Lib.hid (And.intro A5 (And.intro hev hgx))
    have HM := Lib.hid (And.intro hm1 hfl)
    have HCC := Lib.hid (And.intro hc1 hc2)
    clear A5 hev hgx hfl hc1 hc2 hm hm1
    by_cases hlt : (m : Int) < n
    · obtain ⟨e2, he2⟩ : ∃ e2 : Nat, min ((m : Int) + p) (n : Int) = e2 := ⟨(min ((m : Int) + p) (n : Int)).toNat, by omega⟩
      have he2' : e2 = min (m + p) n := by omega
      obtain ⟨y, hy⟩ : ∃ y, (r.take e2).drop m = y := ⟨_, rfl⟩
      have hyR : (R.drop m).take p = y := by
        rw [← hy, ← HRR.out.1, he2', List.drop_take, List.drop_take, List.take_take]
        congr 1
        omega
      have hyl : y.length ≤ 20000 := by rw [← hy]; simp; omega
      have hne : R.drop m ≠ [] := by
        intro h0
        have := congrArg List.length h0
        rw [List.length_drop, HRR.out.2] at this
        simp at this; omega
      obtain ⟨f', rfl⟩ : ∃ f', f = f' + 1 := ⟨f - 1, by
        have := HM.out.2
        rw [List.length_drop, HRR.out.2] at this
        omega⟩
      have hru := run_take f' cx p (R.drop m) hne
      rw [hyR, List.drop_drop] at hru
      obtain ⟨cy, oy, hin⟩ : ∃ cy oy, inF cx y = (cy, oy) := ⟨_, _, rfl⟩
      rw [hin] at hru
      have hie := in_ev HA5.out.1.a.ok HA5.out.2.1 y
      rw [hin] at hie
      have hio := HA5.out.1.a.ok.inn y
      rw [hin] at hio
      have hol : oy.length ≤ 1048576 := by have h1 := hio.bd.g1; have h2 := hio.bd.l1; have h3 := hie.2.1; have h4 := HA5.out.2.2; simp only at h1 h2 h3; omega
      have hIN := HA5.out.1.inn y (by omega)
      rw [hin] at hIN
      have HIN := Lib.hid hIN
      have HY := Lib.hid hy
      have HRU := Lib.hid (And.intro hru hie)
      have hm0 : (0 : Int) ≤ m := by omega
      have hme : (m : Int) ≤ e2 := by omega
      have her : (e2 : Int) ≤ r.length := by omega
      have hw1 : IntKind.i64.wrap ((m : Int) + p) = (m : Int) + p := IntWalk.i64_in _ ⟨by omega, by omega⟩
      clear hru hie hio hin hyR hne hIN he2'
      go_wp2_with (fail)
      refine HIN.out.mono ?_
      rintro e w6 ⟨rfl, b6, A6⟩
      have HA6 := Lib.hid A6
      clear z0 z1 z2 z3 z4 A6
      go_wp2_with (fail)
      go_roundw
      case rel =>
        refine ⟨j + 1, f', t ++ oy, cy, b6, rfl, by rw [HM.out.1]; go_num, HA6.out, HRU.out.2.1, ?_, ?_, ?_, ?_⟩
        · rw [HRU.out.2.2.1, HA5.out.2.2, List.length_append]; omega
        · have := HM.out.2
          rw [HM.out.1]
          rw [List.length_drop, HRR.out.2] at this ⊢
          omega
        · rw [HM.out.1, HCC.out.1, HRU.out.1]
        · rw [HM.out.1, HCC.out.2, HRU.out.1, List.append_assoc]
      case measure => simp [intOf]; omega
    · have hnil : R.drop m = [] := List.drop_eq_nil_of_le (by rw [HRR.out.2]; omega)
      have hru : runP f cx p [] = (cx, []) := by cases f <;> simp [runP]
      have hc := HCC.out
      rw [hnil, hru, List.append_nil] at hc
      have hX3 : Hid (x = (lostF (tickF cx (clampT be)), t)) := Lib.hid (by rw [hX2.out, hc.1, hc.2])
      have hTA := HA5.out.1.tick (max 0 (min be 2000)) (by omega)
      clear hc hru hnil
      go_wp2_with (fail)
      refine hTA.mono ?_
      clear hTA
      rintro e w6 ⟨rfl, b6, A6⟩
      have HA6 := Lib.hid A6
      clear z0 z1 z2 z3 z4 A6
      go_wp2_with (fail)
      refine HA6.out.lost.mono ?_
      rintro e w7 ⟨rfl, b7, A7⟩
      go_wp2_with (fail)
      go_ret
      rw [hX3.out]
      exact ⟨rfl, b7, A7.a⟩
/-! ### ClientWhole -/
def SvsAt (w : World) (v : Value) (os : List Sv) : Prop :=
  ∃ (p : Option Addr) (cap : Nat), v = .slice p os.length cap ∧ os.length ≤ cap ∧ cap ≤ maxLen ∧ (os ≠ [] → ∃ b off, p = some ⟨b, off, none⟩ ∧ ∀ (i : Nat) (h : i < os.length),
    w.cell? ⟨b, off + i * 5, none⟩ = some (I os[i].ki) ∧ w.cell? ⟨b, off + i * 5 + 1, none⟩ = some (I os[i].cu) ∧ w.cell? ⟨b, off + i * 5 + 2, none⟩ = some (I os[i].pi) ∧ w.cell? ⟨b, off + i * 5 + 3, none⟩ = some (I os[i].ah) ∧ w.cell? ⟨b, off + i * 5 + 4, none⟩ = some (I os[i].be))
theorem run_ev (f : Nat) : ∀ (c : Cl) (p : Nat) (s : List UInt8), c.Ok → c.Ev → (runP f c p s).1.Ev := by
  induction f with
  | zero => intro c p s _ h; exact h
  | succ f ih =>
    intro c p s hk h
    unfold runP
    split
    · exact h
    · exact ih _ p _ (hk.inn _) (in_ev hk h _).1
theorem played_ev {c : Cl} (hk : c.Ok) (h : c.Ev) (A : List UInt8) (s : Sv) : (playedF c A s).1.Ev := by
  unfold playedF
  split
  · exact (out_ev h).1
  · unfold playC
    have h1 := (tick_ev (out_ev h).1 (clampT s.ah)).1
    have k1 := hk.out.tick (clampT s.ah)
    exact (lost_ev ((run_ok_same _ _ _ _ k1).1.tick _) (tick_ev (run_ev _ _ _ _ k1 h1) _).1).1
theorem Site.played {A : List UInt8} (hA : A.length ≤ 2000) {F c : Cl} {told : List UInt8} {m : Int} (h : Site A F told m c) (hF : okA F.host F.target = true) (s : Sv) (hn : m + 4000 ≤ 1099511627776) :
    Site A F (told ++ (playedF c A s).2) (m + 4000) (playedF c A s).1 := by
  by_cases hs : c.state = 0
  · have hk := K_lim h.k
    have hg : c.got = (c.got.toNat : Int) := by have := h.got; have := h.ok.bd.f0; have := hk.2.1; omega
    have hne : (outF c).2 ≠ [] := by
      unfold outF
      rw [if_pos hs]
      exact req_some (by rw [hk.2.2.2.2.2.1, hk.2.2.2.2.2.2]; exact hF) (by omega)
    unfold playedF
    rw [if_neg hne]
    refine h.served hA hs s.ki c.got.toNat hg _ (List.take_prefix _ _) (pieN s) (by unfold pieN; omega) _ _ (by unfold clampT; omega) (by unfold clampT; omega) hn (fun h3 => ?_)
    unfold cutN
    rw [if_neg (by simp [h3]), List.take_length]
  · have e : outF c = (c, []) := by unfold outF; rw [if_neg hs]
    unfold playedF
    rw [e]
    simp only [if_true, List.append_nil]
    exact h.mono (by omega)
set_option maxRecDepth 100000 in
set_option maxHeartbeats 40000000 in
theorem whole_any (ho ta : List UInt8) (fr li tm tr wt : Int) (A : List UInt8) (v : Value) (os : List Sv) (w : World) (hT : CT w) (hv : SvsAt w v os) (hs : ∀ o ∈ os, -9223372036854775808 ≤ o.pi ∧ o.pi ≤ 9223372036854775807 ∧ o.cu ≤ 9223372036854775807)
    (h1 : ho.length ≤ 9223372036854775807) (h2 : ta.length ≤ 9223372036854775807) (hf1 : -9223372036854775808 ≤ fr) (hf2 : fr ≤ 9223372036854775807) (hAl : A.length ≤ 9223372036854775807) :
    Calls Tryz.prog 3 #[.agg (FeV ho ta fr li tm tr wt), S A, v] w (LawT w) := by
  obtain ⟨p, cap, rfl, hl1, hl2, hcell⟩ := hv
  have HN := Lib.hid (fun W (k : Kept [] w W) => new_any ho ta fr li tm tr wt W (hT.pt.kept k) h1 h2 hf1 hf2)
  have hA : Kept [] w (w.alloc (.cells (FeV ho ta fr li tm tr wt) FeT)) := (Kept.refl _ _).alloc _
  have HT := Lib.hid (hT.kept hA)
  have HA := Lib.hid hA
  have hfe := fe_new w ho ta fr li tm tr wt
  obtain ⟨z0, z1, z2, z3, z4, z5, z6⟩ := hfe.all
  have HF := Lib.hid hfe
  have HC := Lib.hid (And.intro hcell hs)
  unfold maxLen at hl2
  have hll : (os.length : Int) ≤ 9223372036854775807 := by omega
  have hAI : (A.length : Int) ≤ 9223372036854775807 := by omega
  clear hT hA h1 h2 hfe hcell hs
  go_enter Tryz.func3, Tryz.ntmps3
  go_wp2_with (fail)
  refine (HN.out _ HA.out).mono ?_
  clear z0 z1 z2 z3 z4 z5 z6
  rintro e w1 (⟨hok, b, hb, rfl, hc, k1⟩ | ⟨_, rfl, k1⟩)
  case inr =>
    have K1 := Lib.hid k1
    clear k1
    go_wp2_with (fail)
    refine (cfixed_any _ (HT.out.kept K1.out)).mono ?_
    rintro e w2 ⟨rfl, k2⟩
    go_wp2_with (fail)
    go_ret
    exact ⟨rfl, (HA.out.trans' K1.out).trans' k2⟩
  obtain ⟨n1, n2, n3, n4, n5, n6, n7, n8, n9⟩ := newBd hok
  have A0 := At0.new HT.out (Kept.refl [] _) hb hc (newOk_ok hok).1 k1
  obtain ⟨z2, z3, z4, z5⟩ := (HF.out.kept A0.kp).cells
  have HOK := Lib.hid hok
  have H0 := Lib.hid A0
  clear A0 hc k1 hb hok HN n4 n5 n6 n7 n8 n9
  by_cases hbig : (A.length : Int) ≤ 2000 ∧ fr ≤ A.length
  case neg =>
    have hways : 2000 < (A.length : Int) ∨ ((A.length : Int) ≤ 2000 ∧ (A.length : Int) < fr) := by omega
    have HK0 := Lib.hid H0.out.kp
    clear hbig
    rcases hways with hw | ⟨hw1, hw2⟩
    · go_wp2_with (fail)
      refine (cfixed_any _ (HT.out.kept HK0.out)).mono ?_
      rintro e w2 ⟨rfl, k2⟩
      go_wp2_with (fail)
      go_ret
      exact ⟨rfl, (HA.out.trans' HK0.out).trans' k2⟩
    · go_wp2_with (fail)
      refine (cfixed_any _ (HT.out.kept HK0.out)).mono ?_
      rintro e w2 ⟨rfl, k2⟩
      go_wp2_with (fail)
      go_ret
      exact ⟨rfl, (HA.out.trans' HK0.out).trans' k2⟩
  case pos =>
  obtain ⟨hb1, hb2⟩ := hbig
  have hA2 : A.length ≤ 2000 := by omega
  obtain ⟨fn, hfn⟩ : ∃ fn : Nat, fr = fn := ⟨fr.toNat, by omega⟩
  subst hfn
  obtain ⟨F, hF⟩ : ∃ F, newCl ho ta fn li tm tr wt = F := ⟨_, rfl⟩
  have hsite := site_new (A := A) HOK.out hb2
  have hFo := (newOk_ok HOK.out).2
  have hFe := new_ev ho ta fn li tm tr wt
  have hFf : F.frm = fn ∧ F.limit = li ∧ okA F.host F.target = true := by rw [← hF]; exact ⟨rfl, rfl, hFo⟩
  have A0 := H0.out
  rw [hF] at A0 hsite hFe
  have HS0 := Lib.hid (And.intro A0 (And.intro hFe hsite))
  have HFF := Lib.hid hFf
  have y1 : decide (2000 < (A.length : Int)) = false := decide_eq_false (by omega)
  have y2 : decide ((A.length : Int) < fn) = false := decide_eq_false (by omega)
  have y3 : decide (A.length < fn) = false := decide_eq_false (by omega)
  clear A0 H0 hFe hsite hFf hFo hF
  go_wp2_with (fail)
  clear y1 y2 y3
  go_loopw [9, 10] (fun v9 i wr => ∃ (k : Nat) (bb : Nat) (c : Cl) (told : List UInt8), i = I k ∧ v9 = S told ∧ k ≤ os.length ∧ k ≤ 60 ∧ At0 (w.alloc (.cells (FeV ho ta fn li tm tr wt) FeT)) wr b bb c ∧ c.Ev ∧ Site A F told (70000 * k) c) (fun _ i _ => 60 - (intOf i).toNat)
  case atStart => exact ⟨0, b, F, [], rfl, rfl, by omega, by omega, HS0.out.1, HS0.out.2.1, HS0.out.2.2⟩
  case round =>
    obtain ⟨k, bb, c, told, rfl, rfl, hk1, hk2, A1, hev, hsite⟩ := hrel
    obtain ⟨z2, z3, z4, z5⟩ := (HF.out.kept A1.kp).cells
    have htl : told.length ≤ 2000 := by have := hsite.le; omega
    have HAA := Lib.hid (And.intro A1 (And.intro hev hsite))
    clear A1 hev hsite
    by_cases hlt : k < os.length ∧ k < 60
    · obtain ⟨hlt1, hlt2⟩ := hlt
      have hlt1' : (k : Int) < os.length := by omega
      have hlt2' : (k : Int) < 60 := by omega
      have hk0 : (0 : Int) ≤ k := by omega
      obtain ⟨o, ho'⟩ : ∃ o, os[k] = o := ⟨_, rfl⟩
      obtain ⟨pb, off, rfl, hcc⟩ := HC.out.1 (by intro e; rw [e] at hlt1; simp at hlt1)
      have hec := hcc k hlt1
      rw [ho'] at hec
      have hos := HC.out.2 o (by rw [← ho']; exact List.getElem_mem _)
      obtain ⟨e0, e1, e2, e3, e4⟩ := hec
      have kk := HA.out.trans' HAA.out.1.kp
      replace e0 := Kept.cellOf kk e0
      replace e1 := Kept.cellOf kk e1
      replace e2 := Kept.cellOf kk e2
      replace e3 := Kept.cellOf kk e3
      replace e4 := Kept.cellOf kk e4
      obtain ⟨c', t, hpl⟩ : ∃ c' t, playedF c A o = (c', t) := ⟨_, _, rfl⟩
      have hst := HAA.out.2.2.played hA2 HFF.out.2.2 o (by omega)
      have hevp := played_ev HAA.out.1.ok HAA.out.2.1 A o
      rw [hpl] at hst hevp
      have hcon := played_any HAA.out.1 HAA.out.2.1 A hA2 o ⟨hos.1, hos.2.1⟩ hos.2.2 _ hpl
      have HP := Lib.hid (And.intro hst (And.intro hevp hcon))
      have htt : told.length + t.length ≤ 2000 := by have := hst.le; simp only [List.length_append] at this; omega
      obtain ⟨T, hTT⟩ : ∃ T, told ++ t = T := ⟨_, rfl⟩
      have HTT := Lib.hid hTT
      clear hcc ho' hst hevp hcon kk hpl hTT hos
      go_wp2_with (fail)
      refine HP.out.2.2.mono ?_
      rintro r w2 ⟨rfl, b2, A2⟩
      clear z2 z3 z4 z5 e0 e1 e2 e3 e4
      obtain ⟨z2, z3, z4, z5⟩ := (HF.out.kept A2.kp).cells
      have HA2 := Lib.hid A2
      clear A2
      have hsite := HP.out.1
      rw [HTT.out] at hsite
      have hgot : c'.got = (fn : Int) + T.length := by have := hsite.got; rw [HFF.out.1] at this; exact this
      have htake : (A.take (fn + T.length)).drop fn = T := by
        have h1 := hsite.tl
        rw [HFF.out.1, Int.toNat_natCast] at h1
        rw [List.drop_take, Nat.add_sub_cancel_left]
        exact h1.symm
      have hle : fn + T.length ≤ A.length := by have := hsite.le; rw [HFF.out.1, Int.toNat_natCast] at this; exact this
      have hlim : c'.limit = li := by have := (K_lim hsite.k).1; rw [this, HFF.out.2.1]
      have hst := hsite.st
      rw [HFF.out.2.1] at hst
      have hbd := HA2.out.ok.bd
      have hgl : c'.got ≤ li := by have := hbd.g1; omega
      have HS := Lib.hid (And.intro hsite (And.intro hgot hst))
      have HG := Lib.hid (fun W (h : ClAt W b b2 c') => got_any b b2 c' W h)
      have hev' := HP.out.2.1
      have HEV := Lib.hid hev'
      have hleI : (fn : Int) + T.length ≤ A.length := by omega
      have hf0 : (0 : Int) ≤ fn := by omega
      have hfle : (fn : Int) ≤ (fn : Int) + T.length := by omega
      have hw1 : IntKind.i64.wrap ((fn : Int) + T.length) = (fn : Int) + T.length := IntWalk.i64_in _ ⟨by omega, by omega⟩
      have t1 : (c'.got != (fn : Int) + (T.length : Int)) = false := by simp; omega
      have t2 : decide (li < c'.got) = false := decide_eq_false (by omega)
      have t3 : decide ((A.length : Int) < (fn : Int) + T.length) = false := decide_eq_false (by omega)
      clear hsite hgot hle hlim hst hbd hev' HP hgl
      go_upto_region 9 with (fail)
      rw [HTT.out]
      go_cut [93] from 56 to 93 (fun v wx => v = .bool false ∧ At0 (w.alloc (.cells (FeV ho ta fn li tm tr wt) FeT)) wx b b2 c')
      case first =>
        go_quiet (first
          | (go_at_call 11; exact Calls.quiet_of_same (HG.out _ (HA2.out.cl.drewN _))))
        go_wp2
        go_meet
        exact ⟨rfl, HA2.out.same ((Kept.refl _ _).drewN _)⟩
      case rest =>
        obtain ⟨rfl, A3⟩ := hcut
        clear z2 z3 z4 z5 HA2 t1 t2 t3
        obtain ⟨z2, z3, z4, z5⟩ := (HF.out.kept A3.kp).cells
        have HA3 := Lib.hid A3
        clear A3
        go_wp2_with (fail)
        refine HA3.out.state.mono ?_
        rintro r w4 ⟨rfl, A4⟩
        clear z2 z3 z4 z5 HA3
        obtain ⟨z2, z3, z4, z5⟩ := (HF.out.kept A4.kp).cells
        have HA4 := Lib.hid A4
        clear A4
        rcases HS.out.2.2 with h0 | h2 | ⟨h3, h3'⟩ | ⟨h4, h4'⟩
        · rw [h0]
          clear h0
          go_wp2_with (fail)
          go_roundw
          case rel => exact ⟨k + 1, b2, c', T, by go_num, rfl, by omega, by omega, HA4.out, HEV.out, HS.out.1.mono (by omega)⟩
          case measure => simp [intOf]; omega
        · have hw := HS.out.1.wait h2 (by omega)
          have hwe := (tick_ev HEV.out 64000).1
          have HW := Lib.hid (And.intro hw hwe)
          rw [h2]
          clear h2 hw hwe
          go_wp2_with (fail)
          refine (HA4.out.tick 64000 (by omega)).mono ?_
          rintro r w5 ⟨rfl, b5, A5⟩
          have HA5 := Lib.hid A5
          clear z2 z3 z4 z5 A5
          go_wp2_with (fail)
          refine HA5.out.state.mono ?_
          rintro r w6 ⟨rfl, A6⟩
          have HA6 := Lib.hid A6
          clear A6
          rw [HW.out.1.1]
          go_wp2_with (fail)
          go_roundw
          case rel => exact ⟨k + 1, b5, _, T, by go_num, rfl, by omega, by omega, HA6.out, HW.out.2, HW.out.1.2.mono (by omega)⟩
          case measure => simp [intOf]; omega
        · have t1 : (c'.got != (A.length : Int)) = false := by simp; omega
          rw [h3]
          clear h3 h3'
          go_wp2_with (fail)
          refine (HG.out _ HA4.out.cl).mono ?_
          rintro r w5 ⟨rfl, rfl⟩
          go_wp2_with (fail)
          go_roundw
          case rel => exact ⟨k + 1, b2, c', T, by go_num, rfl, by omega, by omega, HA4.out, HEV.out, HS.out.1.mono (by omega)⟩
          case measure => simp [intOf]; omega
        · rw [h4]
          rcases h4' with h5 | ⟨h5, h6⟩
          · rw [h5]
            clear h4 h5
            go_wp2_with (fail)
            go_roundw
            case rel => exact ⟨k + 1, b2, c', T, by go_num, rfl, by omega, by omega, HA4.out, HEV.out, HS.out.1.mono (by omega)⟩
            case measure => simp [intOf]; omega
          · rw [h5]
            have t1 : decide ((A.length : Int) ≤ li) = false := decide_eq_false (by omega)
            clear h4 h5
            go_wp2_with (fail)
            go_roundw
            case rel => exact ⟨k + 1, b2, c', T, by go_num, rfl, by omega, by omega, HA4.out, HEV.out, HS.out.1.mono (by omega)⟩
            case measure => simp [intOf]; omega
    · have hdone : (¬ (k : Int) < os.length) ∨ ((k : Int) < os.length ∧ ¬ (k : Int) < 60) := by omega
      have HK := Lib.hid (HAA.out.1.kp)
      rcases hdone with hd | ⟨hd1, hd2⟩
      · clear HAA
        go_wp2_with (fail)
        refine (cfixed_any _ (HT.out.kept HK.out)).mono ?_
        rintro e w3 ⟨rfl, k3⟩
        go_wp2_with (fail)
        go_ret
        exact ⟨rfl, (HA.out.trans' HK.out).trans' k3⟩
      · clear HAA
        go_wp2_with (fail)
        refine (cfixed_any _ (HT.out.kept HK.out)).mono ?_
        rintro e w3 ⟨rfl, k3⟩
        go_wp2_with (fail)
        go_ret
        exact ⟨rfl, (HA.out.trans' HK.out).trans' k3⟩
end CL
end
section
namespace CL
set_option maxHeartbeats 8000000
set_option maxRecDepth 100000
/-! ### ClientEnds: pure -/
@[go_sem] theorem i64_and15 (n : Int) : bits .and .i64 n 15 = n % 16 := by
  have h : (BitVec.ofInt 64 15).toNat = 2 ^ 4 - 1 := by decide
  have key : (BitVec.ofInt 64 n &&& BitVec.ofInt 64 15).toNat = (n % ((2 ^ 64 : Nat) : Int)).toNat % 2 ^ 4 := by
    rw [BitVec.toNat_and, BitVec.toNat_ofInt, h, Nat.and_two_pow_sub_one_eq_mod]
  show IntKind.i64.wrap ((BitVec.ofInt 64 n &&& BitVec.ofInt 64 15).toNat : Nat) = n % 16
  rw [key, IntKind.wrap_i64]
  omega
theorem tick_zero (c : Cl) : tickF c 0 = c := by unfold tickF; rw [if_pos (by decide)]
theorem run_zero_played {c : Cl} (A : List UInt8) (cu : Int) (hs : c.state = 0) (hne : (outF c).2 ≠ []) (g : Nat) (hg : c.got = g) (s : List UInt8) (hcut : (respF 1 A g).take (cutN ⟨1, cu, 7, 0, 0⟩ (respF 1 A g).length) = s) :
    playedF c A ⟨1, cu, 7, 0, 0⟩ = (lostF (runP s.length (outF c).1 7 s).1, (runP s.length (outF c).1 7 s).2) := by
  have h1 : clampT 0 = 0 := by decide
  have h2 : pieN ⟨1, cu, 7, 0, 0⟩ = 7 := by unfold pieN; show (max (1 : Int) (7 % 256)).toNat = 7; decide
  unfold playedF
  rw [if_neg hne, hg, Int.toNat_natCast, hcut, h2]
  unfold playC
  simp only [h1, tick_zero]
set_option maxHeartbeats 1000000 in
theorem ends_step {A : List UInt8} (hA : A.length ≤ 2000) {F c : Cl} {told : List UInt8} {m : Int} (h : Site A F told m c) (hF : okA F.host F.target = true) (hs : c.state = 0) (hl : F.limit = A.length) (htr : F.trs = 2) (g : Nat) (hg : c.got = g) (hga : g < A.length ∨ A.length = 0)
    (s15 : Int) (h15 : 0 ≤ s15) :
    ((playedF c A ⟨1, ((respF 1 A g).length : Int) - A.length + g + 1 + s15, 7, 0, 0⟩).1.state = 3 ∧ (playedF c A ⟨1, ((respF 1 A g).length : Int) - A.length + g + 1 + s15, 7, 0, 0⟩).1.total = A.length ∧ (playedF c A ⟨1, ((respF 1 A g).length : Int) - A.length + g + 1 + s15, 7, 0, 0⟩).1.got = A.length) ∨
    ((playedF c A ⟨1, ((respF 1 A g).length : Int) - A.length + g + 1 + s15, 7, 0, 0⟩).1.state = 2 ∧ (g : Int) + 1 ≤ (playedF c A ⟨1, ((respF 1 A g).length : Int) - A.length + g + 1 + s15, 7, 0, 0⟩).1.got ∧ (playedF c A ⟨1, ((respF 1 A g).length : Int) - A.length + g + 1 + s15, 7, 0, 0⟩).1.got < A.length) := by
  have hk := K_lim h.k
  have hne : (outF c).2 ≠ [] := by
    unfold outF
    rw [if_pos hs]
    exact req_some (by rw [hk.2.2.2.2.2.1, hk.2.2.2.2.2.2]; exact hF) (by omega)
  obtain ⟨cu, hcu⟩ : ∃ cu : Int, ((respF 1 A g).length : Int) - A.length + g + 1 + s15 = cu := ⟨_, rfl⟩
  rw [hcu]
  have e1 : (outF c).1 = { c with state := 1, began := c.got, last := c.now, head := [], body := none, skip := 0, left := -1 } := by unfold outF; rw [if_pos hs]
  have hok1 := h.ok.out
  have hgot := h.got
  have hle := h.le
  have hf0 := h.ok.bd.f0
  have hfe := hk.2.1
  have hgle : g ≤ A.length := by omega
  obtain ⟨s, hcut⟩ : ∃ s, (respF 1 A g).take (cutN ⟨1, cu, 7, 0, 0⟩ (respF 1 A g).length) = s := ⟨_, rfl⟩
  rw [run_zero_played A cu hs hne g hg s hcut]
  have gen : ∀ {H B : List UInt8} {x : Hd} {R0 : BD.Rd} {D : List UInt8} {sk : Nat} {lf : Int} (S : Srv A g H B x R0 D sk lf) (hh : HeadsAs A g x R0 sk lf false), 0 < H.length → s <+: H ++ B → AtP A g H B R0 sk lf false s (runP s.length (outF c).1 7 s).2 (runP s.length (outF c).1 7 s).1 := by
    intro H B x R0 D sk lf S hh hH hp
    have hat : AtP A g H B R0 sk lf false [] [] (outF c).1 := by
      rw [e1]
      exact ⟨by simpa using hg, by simp, by simpa using S.ga, .inl ⟨rfl, hg, rfl, rfl, rfl, rfl, hH, rfl, h.tot⟩⟩
    have := at_run S hh 7 (by omega) s.length (outF c).1 [] [] s (Nat.le_refl _) (by simpa using hp) hat
    simpa using this
  obtain ⟨o3, s3⟩ := run_ok_same s.length (outF c).1 7 s hok1
  have hK3 := K_lim (s3.k.trans (out_same c).k)
  obtain ⟨c3, hc3⟩ : ∃ c3, (runP s.length (outF c).1 7 s).1 = c3 := ⟨_, rfl⟩
  obtain ⟨t3, ht3⟩ : ∃ t3, (runP s.length (outF c).1 7 s).2 = t3 := ⟨_, rfl⟩
  simp only [hc3, ht3] at gen o3 hK3 ⊢
  have over3 : ∀ {c3 : Cl}, c3.limit = A.length → Over A false c3 → (lostF c3).state = 3 ∧ (lostF c3).total = A.length ∧ (lostF c3).got = A.length := by
    intro c3 hl3 ho
    rcases ho with ⟨b1, b2, b3⟩ | ⟨_, _, b3, _⟩ | ⟨b, _⟩
    · unfold lostF; rw [if_neg (by omega)]; exact ⟨b1, b3, b2⟩
    · omega
    · cases b
  have hlim3 : c3.limit = A.length := by rw [hK3.1, hk.1, hl]
  by_cases hgA : g < A.length
  · have hresp : respF 1 A g = partH g A.length ++ A.drop g := by unfold respF; rw [if_pos ⟨rfl, hgA⟩]
    have S := srv_part A g hA hgA
    have hlenr : (respF 1 A g).length = (partH g A.length).length + (A.length - g) := by rw [hresp, List.length_append, List.length_drop]
    have hsl : s.length = min ((partH g A.length).length + 1 + s15.toNat) ((partH g A.length).length + (A.length - g)) := by
      rw [← hcut, List.length_take]
      unfold cutN
      simp only
      rw [if_pos (by omega)]
      omega
    have hat := gen S (as_206 hA hgA) (by simp [partH, l206]) (by rw [← hresp, ← hcut]; exact List.take_prefix _ _)
    obtain ⟨a1, a2, a3, hat⟩ := hat
    rcases hat with ⟨_, _, _, _, _, _, b5, _⟩ | ⟨hbg, k, r, o, b1, b2, b3, b4⟩ | ho
    · omega
    · right
      have hkl : s.length = (partH g A.length).length + k := by
        rw [b1, List.length_append, List.length_take]
        have := b2.kb
        omega
      have hkB := b2.kb
      rw [List.length_drop] at hkB
      have hk1 : 1 ≤ k := by omega
      obtain ⟨y, hy⟩ : ∃ y, (A.drop g).take k = y := ⟨_, rfl⟩
      have hyl : y.length = k := by rw [← hy]; simp; omega
      have hfd := b2.fd
      rw [hy] at hfd
      have hfs := BD.feeds_some 0 y (rdSz (A.length - g)) (by unfold rdSz; simp; omega) (.inl rfl) (by unfold rdSz; simp; omega) (by intro e; rw [e] at hyl; simp at hyl; omega) (by unfold rdSz; simp; omega)
      rw [hfs] at hfd
      have hro := Prod.mk.inj hfd
      have hr := hro.1
      have hoy := (Prod.mk.inj hro.2).1
      have htl := b2.tl
      rw [List.drop_zero, ← hoy] at htl
      have hgt : c3.got = (g : Int) + k := by rw [a1, htl, hyl]
      have hkA : g + k < A.length := by
        apply Decidable.byContradiction
        intro hn
        apply b4
        rw [← hr]
        have hst0 : (rdSz (A.length - g)).state = 0 := by unfold rdSz; simp only; rw [if_neg (by omega)]
        have hlf : (rdSz (A.length - g)).left = ((A.length - g : Nat) : Int) := rfl
        simp only [hst0, hlf, hyl]
        rw [if_pos (by omega)]
        rfl
      have hre : r.e = 0 := by rw [(BD.feeds_e b2.fd).1]; exact S.e0
      have hr1 : r.state ≠ 1 := by
        have := BD.feeds_ne1 ((A.drop g).take k) (rdSz (A.length - g)) (by unfold rdSz; simp only; split <;> decide)
        rw [b2.fd] at this
        exact this
      have hcl : BD.closeF r = ({ r with e := 182 }, 182) := by unfold BD.closeF; rw [if_neg (by simp [hre, b4]), if_neg hr1]
      have hlo : lostF c3 = losesF { c3 with body := some { r with e := 182 } } := by
        unfold lostF
        rw [if_pos b2.st]
        simp only [b3]
        rw [hcl, if_neg (by simp)]
      have hl1 : lose1 { c3 with body := some { r with e := 182 } } = { c3 with body := some { r with e := 182 }, tries := c3.trs, wait := c3.wt } := by
        unfold lose1
        rw [if_pos (show c3.began < c3.got by omega)]
      have h2 : c3.trs = 2 := by rw [hK3.2.2.2.1, hk.2.2.2.1, htr]
      have hfin : (lostF c3).state = 2 ∧ (lostF c3).got = c3.got := by
        rw [hlo]
        unfold losesF lose2
        rw [hl1]
        simp only [h2]
        rw [if_neg (by decide)]
        exact ⟨rfl, rfl⟩
      exact ⟨hfin.1, by rw [hfin.2]; omega, by rw [hfin.2]; omega⟩
    · left
      exact over3 hlim3 ho
  · have hA0 : A.length = 0 := by omega
    have hg0 : g = 0 := by omega
    subst hg0
    have hAn : A = [] := List.eq_nil_of_length_eq_zero hA0
    subst hAn
    have hresp : respF 1 [] 0 = wholeH 0 ++ [] := by unfold respF; rw [if_neg (by simp), if_neg (by decide), if_neg (by decide), if_neg (by decide)]; rfl
    have S := srv_whole [] 0 (by simp) (by simp)
    have hsw : s = wholeH 0 ++ [] := by
      rw [← hcut, hresp]
      apply List.take_of_length_le
      unfold cutN
      simp only
      rw [hresp] at hcu
      simp at hcu ⊢
      split <;> omega
    have hat := gen S (as_200 (newF_whole 0 (by omega)) (.inr rfl) (by simp)) (by simp [wholeH, l200]) (by rw [hsw]; exact List.prefix_refl _)
    obtain ⟨a1, a2, a3, hat⟩ := hat
    left
    rcases hat with ⟨_, _, _, _, _, _, b5, _⟩ | ⟨hbg, k, r, o, b1, b2, b3, b4⟩ | ho
    · rw [hsw] at b5; simp at b5
    · exfalso
      have hfd := b2.fd
      rw [List.take_nil, BD.feeds_nil] at hfd
      have hr := (Prod.mk.inj hfd).1
      apply b4
      rw [← hr]
      rfl
    · exact over3 hlim3 ho

/-! ### ClientEnds -/
def tL : List UInt8 := [47, 116]
theorem hT_ok : okA hL tL = true := by decide
theorem ends_new (A : List UInt8) (hA : A.length ≤ 300) (wt : Int) (h1 : 1 ≤ wt) (h2 : wt ≤ 1000) : newOk hL tL 0 A.length 9 2 wt = true := by
  unfold newOk
  refine decide_eq_true ⟨?_, by omega, by omega, by omega, by omega, h1, h2, by omega, by omega⟩
  unfold reqF
  rw [if_pos (by simp [hT_ok])]
set_option maxRecDepth 100000 in
set_option maxHeartbeats 40000000 in
theorem ends_law (A : List UInt8) (st wa : Int) (w : World) (hT : CT w) (hAl : A.length ≤ 9223372036854775807) :
    Calls Tryz.prog 4 #[S A, I st, I wa] w (LawT w) := by
  have HT := Lib.hid hT
  have hAI : (A.length : Int) ≤ 9223372036854775807 := by omega
  by_cases hbig : (A.length : Int) ≤ 300
  case neg =>
    have hbig' : 300 < (A.length : Int) := by omega
    clear hbig hT
    go_enter Tryz.func4, Tryz.ntmps4
    go_wp2_with (fail)
    refine (cfixed_any _ HT.out).mono ?_
    rintro e w2 ⟨rfl, k2⟩
    go_wp2_with (fail)
    go_ret
    exact ⟨rfl, k2⟩
  case pos =>
  have hA3 : A.length ≤ 300 := by omega
  obtain ⟨wt, hwt⟩ : ∃ wt : Int, max 1 (min wa 1000) = wt := ⟨_, rfl⟩
  have hwt1 : 1 ≤ wt := by omega
  have hwt2 : wt ≤ 1000 := by omega
  have hnok := ends_new A hA3 wt hwt1 hwt2
  have hnew := new_any hL tL 0 A.length 9 2 wt w hT.pt (by decide) (by decide) (by omega) (by omega)
  rw [hnok] at hnew
  have HN := Lib.hid (And.intro hnok hnew)
  have y1 : decide (300 < (A.length : Int)) = false := decide_eq_false (by omega)
  have y2 : decide (300 < A.length) = false := decide_eq_false (by omega)
  clear hT hnok hnew
  go_enter Tryz.func4, Tryz.ntmps4
  go_wp2_with (fail)
  refine HN.out.2.mono ?_
  rintro e w1 (⟨_, b, hb, rfl, hc, k1⟩ | ⟨e0, _⟩)
  case inr => cases e0
  obtain ⟨F, hF⟩ : ∃ F, newCl hL tL 0 A.length 9 2 wt = F := ⟨_, rfl⟩
  have A0 := At0.new HT.out (Kept.refl [] _) hb hc (newOk_ok HN.out.1).1 k1
  have hsite := site_new (A := A) HN.out.1 (by omega)
  have hFe := new_ev hL tL 0 A.length 9 2 wt
  have hFf : F.frm = 0 ∧ F.limit = A.length ∧ F.trs = 2 ∧ okA F.host F.target = true ∧ F.state = 0 ∧ F.got = 0 := by rw [← hF]; exact ⟨rfl, rfl, rfl, hT_ok, rfl, rfl⟩
  rw [hF] at A0 hsite hFe
  have HS0 := Lib.hid (And.intro A0 (And.intro hFe hsite))
  have HFF := Lib.hid hFf
  clear A0 hFe hsite hFf hF hc k1 hb HN hwt
  go_wp2_with (fail)
  clear y1 y2
  go_loopw [9, 10] (fun v9 i wr => ∃ (k : Nat) (bb : Nat) (c : Cl) (told : List UInt8), i = I k ∧ v9 = S told ∧ k ≤ A.length ∧ At0 w wr b bb c ∧ c.Ev ∧ Site A F told (70000 * k) c ∧ c.state = 0 ∧ (k : Int) ≤ c.got ∧ (c.got < A.length ∨ A.length = 0)) (fun _ i _ => A.length + 1 - (intOf i).toNat)
  case atStart => exact ⟨0, b, F, [], rfl, rfl, by omega, HS0.out.1, HS0.out.2.1, HS0.out.2.2, HFF.out.2.2.2.2.1, by rw [HFF.out.2.2.2.2.2]; simp, by rw [HFF.out.2.2.2.2.2]; omega⟩
  case round =>
    obtain ⟨k, bb, c, told, rfl, rfl, hk1, A1, hev, hsite, hs0, hkg, hgl⟩ := hrel
    obtain ⟨g, hg⟩ : ∃ g : Nat, c.got = g := ⟨c.got.toNat, by omega⟩
    have hga : g < A.length ∨ A.length = 0 := by omega
    have hgA : g ≤ A.length := by have := hsite.le; have := hsite.got; have := HFF.out.1; omega
    obtain ⟨r, hr⟩ : ∃ r, respF 1 A g = r := ⟨_, rfl⟩
    have hrl := resp_le 1 A g (by omega)
    rw [hr] at hrl
    have hlt : (k : Int) ≤ A.length := by omega
    obtain ⟨s15, hs15⟩ : ∃ s15 : Int, st % 16 = s15 := ⟨_, rfl⟩
    have hs1 : 0 ≤ s15 := by omega
    have hs2 : s15 ≤ 15 := by omega
    have hstep := ends_step (by omega) hsite HFF.out.2.2.2.1 hs0 HFF.out.2.1 HFF.out.2.2.1 g hg hga s15 hs1
    have hstp := hsite.played (by omega) HFF.out.2.2.2.1 ⟨1, ((respF 1 A g).length : Int) - A.length + g + 1 + s15, 7, 0, 0⟩ (by omega)
    rw [hr] at hstep hstp
    obtain ⟨cu, hcu⟩ : ∃ cu : Int, (r.length : Int) - A.length + g + 1 + s15 = cu := ⟨_, rfl⟩
    obtain ⟨c', t, hpl⟩ : ∃ c' t, playedF c A ⟨1, cu, 7, 0, 0⟩ = (c', t) := ⟨_, _, rfl⟩
    have hevp := played_ev A1.ok hev A ⟨1, cu, 7, 0, 0⟩
    have hcon : ∀ W, At0 w W b bb c → Calls Tryz.prog 10 #[Ptr b, S A, .agg #[I 1, I cu, I 7, I 0, I 0]] W (CStep w b (S t) c') := fun W h => played_any h hev A (by omega) ⟨1, cu, 7, 0, 0⟩ (by simp) (by simp only; omega) _ hpl
    rw [hcu, hpl] at hstep hstp
    rw [hpl] at hevp
    have HP := Lib.hid (And.intro hstep (And.intro hstp (And.intro hevp hcon)))
    have HGG : Hid (∀ W (h : ClAt W b bb c), Calls Tryz.prog 11 #[Ptr b] W fun e w' => e = .returned (I g) ∧ w' = W) := Lib.hid fun W h => by
      have := got_any b bb c W h
      rwa [hg] at this
    have HRS : Hid (∀ W, Calls Tryz.prog 14 #[I 1, S A, I g] W fun e w' => e = .returned (S r) ∧ Kept [] W w') := Lib.hid fun W => response_any 1 A g W (by omega) (by omega) r hr
    have HA1 := Lib.hid A1
    obtain ⟨T, hTT⟩ : ∃ T, told ++ t = T := ⟨_, rfl⟩
    have htt : told.length + t.length ≤ 300 := by have := hstp.le; simp only [List.length_append] at this; omega
    have HTT := Lib.hid hTT
    have HCU := Lib.hid hcu
    have hkg2 : (k : Int) ≤ g := by omega
    have hr0 : (r.length : Int) ≤ 20000 := by omega
    have hgI : (g : Int) ≤ A.length := by omega
    clear A1 hev hsite hs0 hkg hgl hg hga hr hrl hstep hstp hevp hcon hpl hcu hTT
    have qw1 : IntKind.i64.wrap ((r.length : Int) - A.length) = (r.length : Int) - A.length := IntWalk.i64_in _ ⟨by omega, by omega⟩
    have qw2 : IntKind.i64.wrap ((r.length : Int) - A.length + g) = (r.length : Int) - A.length + g := IntWalk.i64_in _ ⟨by omega, by omega⟩
    have qw3 : IntKind.i64.wrap ((r.length : Int) - A.length + g + 1) = (r.length : Int) - A.length + g + 1 := IntWalk.i64_in _ ⟨by omega, by omega⟩
    have qw4 : IntKind.i64.wrap ((r.length : Int) - A.length + g + 1 + s15) = (r.length : Int) - A.length + g + 1 + s15 := IntWalk.i64_in _ ⟨by omega, by omega⟩
    go_wp2_with (fail)
    refine (HGG.out _ HA1.out.cl).mono ?_
    rintro e w2 ⟨rfl, rfl⟩
    go_wp2_with (fail)
    refine (HRS.out _).mono ?_
    rintro e w2 ⟨rfl, k2⟩
    have HK2 := Lib.hid k2
    have HA2 := Lib.hid (HA1.out.same k2)
    clear k2
    go_wp2_with (fail)
    refine (HGG.out _ HA2.out.cl).mono ?_
    rintro e w3 ⟨rfl, rfl⟩
    go_wp2_with (fail)
    rw [HCU.out]
    refine (HP.out.2.2.2 _ HA2.out).mono ?_
    rintro e w3 ⟨rfl, b3, A3⟩
    have HA3 := Lib.hid A3
    clear A3
    have htt2 : told.length + t.length ≤ 300 := htt
    go_wp2_with (fail)
    refine HA3.out.state.mono ?_
    rintro e w4 ⟨rfl, A4⟩
    have HA4 := Lib.hid A4
    clear A4
    have hsite := HP.out.2.1
    rw [HTT.out] at hsite
    rw [HTT.out]
    rcases HP.out.1 with ⟨x1, x2, x3⟩ | ⟨x1, x2, x3⟩
    · have hTA : T = A := by
        have h1 := hsite.tl
        have h2 := hsite.got
        rw [HFF.out.1] at h1 h2
        have h3 : T.length = A.length := by omega
        rw [h1]
        simp [h3]
      rw [x1]
      have HX2 := Lib.hid x2
      subst hTA
      clear x1 x2 x3 hsite
      go_wp2_with (fail)
      refine (HA4.out.total).mono ?_
      rintro e w5 ⟨rfl, rfl⟩
      rw [HX2.out]
      go_wp2_with (fail)
      refine (cfixed_any _ (HT.out.kept HA4.out.kp)).mono ?_
      rintro e w5 ⟨rfl, k5⟩
      go_wp2_with (fail)
      go_ret
      exact ⟨rfl, HA4.out.kp.trans' k5⟩
    · have hw := hsite.wait x1 (by omega)
      have htk := tick_ev HP.out.2.2.1 64000
      have HW := Lib.hid (And.intro hw htk)
      have HX := Lib.hid (And.intro x2 x3)
      rw [x1]
      clear x1 x2 x3 hsite hw htk
      go_wp2_with (fail)
      refine (HA4.out.tick 64000 (by omega)).mono ?_
      rintro e w5 ⟨rfl, b5, A5⟩
      have HA5 := Lib.hid A5
      clear A5
      go_wp2_with (fail)
      go_roundw
      case rel =>
        obtain ⟨y2, y3⟩ := HX.out
        have h4 := HW.out.2.2.1
        exact ⟨k + 1, b5, _, T, by go_num, rfl, by omega, HA5.out, HW.out.2.1, HW.out.1.2.mono (by omega), HW.out.1.1, by rw [h4]; omega, .inl (by rw [h4]; exact y3)⟩
      case measure => simp [intOf]; omega
end CL
end
end Go.Proofs.YtgdncdhalnijcaaGreatDoor
