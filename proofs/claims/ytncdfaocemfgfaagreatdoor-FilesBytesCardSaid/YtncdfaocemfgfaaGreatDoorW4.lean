/- Walks and lemmas on the program of this seat, used by its statements; each theorem bears its own conditions. -/
import Derived.Test.YtncdfaocemfgfaaGreatDoorW3
import Derived.Test.YtncdfaocemfgfaaGreatDoorW1
import Derived.Handy
import Derived.OwnWalk
import Derived.Deep.AppendLies
import Derived.IntWalk
import Derived.Deep.CutRange
import Derived.Deep.RegionHeld3
namespace Go.Proofs.YtncdfaocemfgfaaGreatDoor
open Go.RowKit
set_option linter.unusedVariables false
set_option linter.unusedSimpArgs false
set_option linter.unusedSectionVars false
section
open Go.RowKit
set_option linter.unusedVariables false
set_option linter.unusedSimpArgs false
set_option maxHeartbeats 8000000
set_option maxRecDepth 100000
theorem FlAt.drew {w : World} {fb bb cb : Nat} {f : Fl} (h : FlAt w fb bb cb f) : FlAt w.drew fb bb cb f := ⟨h.blk, h.row, h.cnt, h.n1, h.n2, h.n3, h.len, h.few, h.pos⟩
theorem FlAt.drewN {w : World} {fb bb cb : Nat} {f : Fl} (h : FlAt w fb bb cb f) (k : Nat) : FlAt (w.drewN k) fb bb cb f := ⟨h.blk, h.row, h.cnt, h.n1, h.n2, h.n3, h.len, h.few, h.pos⟩
structure PtAt (w : World) (pb fb bb cb : Nat) (fs n : Nat) (f : Fl) : Prop where
  blk : w.heap[pb]? = some (.cells #[Ptr fb, I fs, I n] 166 (0, 0))
  fl : FlAt w fb bb cb f
  fit : fs + n ≤ f.cs.length
  np : 1 ≤ n
  n1 : fb ≠ pb
  n2 : bb ≠ pb
  n3 : cb ≠ pb
section
variable {w : World} {pb fb bb cb fs n : Nat} {f : Fl}
theorem PtAt.cells (h : PtAt w pb fb bb cb fs n f) : w.cell? ⟨pb, 0, none⟩ = some (Ptr fb) ∧ w.cell? ⟨pb, 1, none⟩ = some (I fs) ∧ w.cell? ⟨pb, 2, none⟩ = some (I n) := by
  refine ⟨?_, ?_, ?_⟩ <;> (rw [cell_at h.blk]; rfl)
theorem PtAt.kept {w' : World} {T : List Nat} (h : PtAt w pb fb bb cb fs n f) (k : Kept T w w') (h0 : pb ∉ T) (h1 : fb ∉ T) (h2 : bb ∉ T) (h3 : cb ∉ T) : PtAt w' pb fb bb cb fs n f :=
  ⟨k.at h.blk h0, h.fl.kept k h1 h2 h3, h.fit, h.np, h.n1, h.n2, h.n3⟩
theorem PtAt.same {w' : World} (h : PtAt w pb fb bb cb fs n f) (k : Kept [] w w') : PtAt w' pb fb bb cb fs n f := h.kept k (by simp) (by simp) (by simp) (by simp)
theorem PtAt.turned {w' : World} {f' : Fl} (h : PtAt w pb fb bb cb fs n f) (k : Kept [fb, bb, cb] w w') (h2 : FlAt w' fb bb cb f') (hl : f'.cs.length = f.cs.length) : PtAt w' pb fb bb cb fs n f' :=
  ⟨k.at h.blk (by simp; exact ⟨Ne.symm h.n1, Ne.symm h.n2, Ne.symm h.n3⟩), h2, by rw [hl]; exact h.fit, h.np, h.n1, h.n2, h.n3⟩
theorem PtAt.bound (h : PtAt w pb fb bb cb fs n f) : fs + n ≤ 256 ∧ 512 * fs + 512 * n ≤ f.bs.length := by
  have := h.fit
  have := h.fl.few
  have := h.fl.len
  omega
end
def PtPost (v : Value) (pb fb bb cb fs n : Nat) (w : World) (f : Fl) (e : Ending) (w' : World) : Prop := e = .returned v ∧ PtAt w' pb fb bb cb fs n f ∧ Kept [fb, bb, cb] w w'
theorem size_any (w : World) (pb fb bb cb fs n : Nat) (f : Fl) (h : PtAt w pb fb bb cb fs n f) : Calls Tryz.prog 109 #[Ptr pb] w fun e w' => e = .returned (I (n * 512 : Nat)) ∧ w' = w := by
  obtain ⟨c0, c1, c2⟩ := h.cells
  have hb := h.bound.1
  have hbI : (fs : Int) + n ≤ 256 := by omega
  clear h
  go_enter Tryz.func109, Tryz.ntmps109
  go_wp2_with (fail)
  go_ret
  exact ⟨by simp, rfl⟩
theorem pdead_any (w : World) (pb fb bb cb fs n : Nat) (f : Fl) (h : PtAt w pb fb bb cb fs n f) : Calls Tryz.prog 154 #[Ptr pb] w fun e w' => e = .returned (.bool f.dead) ∧ w' = w := by
  obtain ⟨c0, c1, c2⟩ := h.cells
  have HF := Lib.hid (fdead_any w fb bb cb f h.fl)
  clear h
  go_enter Tryz.func154, Tryz.ntmps154
  go_wp2_with (fail)
  refine HF.out.mono ?_
  rintro e w1 ⟨rfl, rfl⟩
  go_wp2_with (fail)
  go_ret
  exact ⟨rfl, rfl⟩
theorem place_any (w : World) (pb fb bb cb fs n : Nat) (f : Fl) (h : PtAt w pb fb bb cb fs n f) (a k : Nat) (hk : a + k ≤ 512 * n) : Calls Tryz.prog 201 #[Ptr pb, I a, I k] w fun e w' => e = .returned (.tuple #[I (512 * fs + a : Nat), .bool true]) ∧ w' = w := by
  obtain ⟨c0, c1, c2⟩ := h.cells
  have HS := Lib.hid (size_any w pb fb bb cb fs n f h)
  have hb := h.bound.1
  have hbI : (fs : Int) + n ≤ 256 := by omega
  have hkI : (a : Int) + k ≤ 512 * n := by omega
  have h1 : (a : Int) ≤ (n * 512 : Nat) := by omega
  have h2 : (k : Int) ≤ (n * 512 : Nat) - (a : Int) := by omega
  have h0 : (n * 512 : Nat) ≤ 131072 := by omega
  have h0I : ((n * 512 : Nat) : Int) ≤ 131072 := by omega
  have hfin : (fs : Int) * 512 + a = (512 * fs + a : Nat) := by omega
  have HFIN := Lib.hid hfin
  obtain ⟨N, hN⟩ : ∃ N : Nat, n * 512 = N := ⟨_, rfl⟩
  rw [hN] at HS h1 h2 h0 h0I
  clear h hk hfin hN
  go_enter Tryz.func201, Tryz.ntmps201
  go_wp2_with (fail)
  refine HS.out.mono ?_
  rintro e w1 ⟨rfl, rfl⟩
  go_wp2_with (fail)
  refine HS.out.mono ?_
  rintro e w1 ⟨rfl, rfl⟩
  go_wp2_with (fail)
  go_ret2
  exact ⟨by rw [HFIN.out]; rfl, rfl⟩
theorem pread_any (w : World) (pb fb bb cb fs n : Nat) (f : Fl) (h : PtAt w pb fb bb cb fs n f) (hd : f.dead = false) (a k : Nat) (hp : 1 ≤ k) (hk : a + k ≤ 512 * n) : Calls Tryz.prog 170 #[Ptr pb, I a, I k] w fun e w' => e = .returned (.tuple #[S ((f.bs.drop (512 * fs + a)).take k), I 0]) ∧ w' = w := by
  obtain ⟨c0, c1, c2⟩ := h.cells
  have HP := Lib.hid (place_any w pb fb bb cb fs n f h a k hk)
  have HR := Lib.hid (fread_any w fb bb cb f h.fl hd (512 * fs + a) k hp (by have := h.bound.2; omega))
  obtain ⟨N, hN⟩ : ∃ N : Nat, 512 * fs + a = N := ⟨_, rfl⟩
  rw [hN] at HP HR ⊢
  clear h hN
  go_enter Tryz.func170, Tryz.ntmps170
  go_wp2_with (fail)
  refine HP.out.mono ?_
  rintro e w1 ⟨rfl, rfl⟩
  go_wp2_with (fail)
  refine HR.out.mono ?_
  rintro e w1 ⟨rfl, rfl⟩
  go_wp2_with (fail)
  go_ret2
  exact ⟨rfl, rfl⟩
def allB (l : List UInt8) : Bool := l.all fun c => c == 255
theorem count_all (l : List UInt8) : (((Lib.countByte l 255 : Nat) : Int) == (l.length : Int)) = allB l := by
  unfold allB Lib.countByte
  rw [Bool.eq_iff_iff]
  simp only [beq_iff_eq, List.all_eq_true]
  rw [show (((l.count 255 : Nat) : Int) = (l.length : Int)) ↔ l.count 255 = l.length by omega, List.count_eq_length]
  exact ⟨fun h x hx => (h x hx).symm, fun h x hx => (h x hx).symm⟩
theorem clean_any (w : World) (pb fb bb cb fs n : Nat) (f : Fl) (h : PtAt w pb fb bb cb fs n f) (hd : f.dead = false) (a k : Nat) (hp : 1 ≤ k) (hk : a + k ≤ 512 * n) : Calls Tryz.prog 156 #[Ptr pb, I a, I k] w fun e w' => e = .returned (.tuple #[.bool (allB ((f.bs.drop (512 * fs + a)).take k)), I 0]) ∧ w' = w := by
  have HR := Lib.hid (pread_any w pb fb bb cb fs n f h hd a k hp hk)
  obtain ⟨l, hl⟩ : ∃ l, (f.bs.drop (512 * fs + a)).take k = l := ⟨_, rfl⟩
  have hll : l.length ≤ 131072 := by rw [← hl]; have := h.fl.size; simp; omega
  have hllI : (l.length : Int) ≤ 131072 := by omega
  have hc := Tryz.strings_Count_one ⟨l.toArray⟩ 255 w
  have HC : Hid (Calls Tryz.prog 193 #[S l, S [255]] w fun e w' => e = .returned (I (Lib.countByte l 255)) ∧ w' = w) := Lib.hid (by simpa using hc)
  rw [hl] at HR ⊢
  have HA := Lib.hid (count_all l)
  clear h hc hl
  go_enter Tryz.func156, Tryz.ntmps156
  go_wp2_with (fail)
  refine HR.out.mono ?_
  rintro e w1 ⟨rfl, rfl⟩
  go_wp2_with (fail)
  refine HC.out.mono ?_
  rintro e w1 ⟨rfl, rfl⟩
  go_wp2_with (fail)
  go_ret2
  exact ⟨by rw [← HA.out]; rfl, rfl⟩
def lenV (v : Value) : Nat := match v with | .string b => b.size | _ => 0
theorem pwrite_any (w : World) (pb fb bb cb fs n : Nat) (f : Fl) (h : PtAt w pb fb bb cb fs n f) (hd : f.dead = false) (ha : f.armed = 0) (a : Nat) (s : List UInt8) (hs : s ≠ []) (hk : a + s.length ≤ 512 * n) (hp : a % 64 + s.length ≤ 64) :
    Calls Tryz.prog 180 #[Ptr pb, I a, S s] w (PtPost (I 0) pb fb bb cb fs n w { f.stepped with bs := progL f.bs (512 * fs + a) s }) := by
  have HP := Lib.hid (place_any w pb fb bb cb fs n f h a s.length hk)
  have hpos : 1 ≤ s.length := by have := List.length_pos_iff.2 hs; omega
  have HG := Lib.hid (fun W (h : FlAt W fb bb cb f) => prog_any W fb bb cb f h hd ha (512 * fs + a) s hs (by have := h.len; have := hk; have := ‹PtAt w pb fb bb cb fs n f›.bound.2; omega) (by omega))
  have hmin : min (s.length : Int) (64 - ((512 * fs + a : Nat) : Int) % 64) = s.length := by omega
  have hb := h.bound.1
  have hN2 : ((512 * fs + a : Nat) : Int) ≤ 262144 := by omega
  obtain ⟨N, hN⟩ : ∃ N : Nat, 512 * fs + a = N := ⟨_, rfl⟩
  rw [hN] at HP HG hmin hN2 ⊢
  have hse : (s != []) = true := by simpa using hs
  have hse2 : (!s.isEmpty) = true := by simpa using hs
  have hsl : (s.length : Int) ≤ 64 := by omega
  have hposI : (1 : Int) ≤ s.length := by omega
  have H := Lib.hid h
  clear h hN hk hp hs hb
  go_enter Tryz.func180, Tryz.ntmps180
  go_wp2_with (fail)
  refine HP.out.mono ?_
  rintro e w1 ⟨rfl, rfl⟩
  go_wp2_with (fail)
  go_loopw [2, 7] (fun v v7 wr => (v = S s ∧ v7 = I N ∧ wr = w1) ∨ (v = S [] ∧ PtAt wr pb fb bb cb fs n { f.stepped with bs := progL f.bs N s } ∧ Kept [fb, bb, cb] w1 wr)) (fun v _ _ => lenV v)
  case atStart => exact .inl ⟨rfl, rfl, rfl⟩
  case round =>
    rcases hrel with ⟨rfl, rfl, hw⟩ | ⟨rfl, h2, k2⟩
    · replace hw := hw.symm
      subst hw
      go_upto_region 6 with (fail)
      go_cut [10] from 21 to 46 (fun v wx => v = I 0 ∧ PtAt wx pb fb bb cb fs n { f.stepped with bs := progL f.bs N s } ∧ Kept [fb, bb, cb] w1 wx)
      case first =>
        obtain ⟨c0, c1, c2⟩ := H.out.cells
        go_region_with (first | (go_at_call 208; (with_reducible refine (HG.out _ H.out.fl.drew).mono ?_); rintro e w2 ⟨rfl, h2, k2⟩))
        all_goals
          go_wp2
          go_meet
          exact ⟨rfl, H.out.turned ((Kept.refl _ _).drew.trans' k2) h2 rfl, (Kept.refl _ _).drew.trans' k2⟩
      case rest =>
        obtain ⟨rfl, h2, k2⟩ := hcut
        have H2 := Lib.hid (And.intro h2 k2)
        clear h2 k2
        have hw9 : IntKind.i64.wrap ((N : Int) + s.length) = N + s.length := by rw [IntKind.wrap_i64]; omega
        go_wp2_with (fail)
        go_region
        all_goals
          go_wp2
          go_roundw
          case rel => exact .inr ⟨by first | rfl | (simp; rfl), H2.out.1.same ((Kept.refl _ _).drew), H2.out.2.drew⟩
          case measure => simp [lenV, ByteArray.size]; omega
    · go_wp2_with (fail)
      go_ret
      exact ⟨rfl, h2, k2⟩
end
section
open Go.RowKit
set_option linter.unusedVariables false
set_option linter.unusedSimpArgs false
set_option maxHeartbeats 8000000
set_option maxRecDepth 100000
def putN : Nat → Nat → List UInt8
  | 0, _ => []
  | k + 1, n => UInt8.ofNat (n % 256) :: putN k (n / 256)
def getN : List UInt8 → Nat
  | [] => 0
  | c :: l => c.toNat + 256 * getN l
theorem putN_len (k : Nat) : ∀ n, (putN k n).length = k := by
  induction k with
  | zero => intro n; rfl
  | succ k ih => intro n; simp [putN, ih]
theorem putN_at (k : Nat) : ∀ (n i : Nat), i < k → byteAt (putN k n) i = UInt8.ofNat (n / 256 ^ i % 256) := by
  induction k with
  | zero => intro n i h; omega
  | succ k ih =>
    intro n i h
    cases i with
    | zero => simp [putN, byteAt]
    | succ i =>
      have := ih (n / 256) i (by omega)
      rw [Nat.div_div_eq_div_mul] at this
      rw [show (256 : Nat) ^ (i + 1) = 256 * 256 ^ i by rw [Nat.pow_succ, Nat.mul_comm]]
      rw [← this]
      rfl
theorem getN_put (k : Nat) : ∀ n, n < 256 ^ k → getN (putN k n) = n := by
  induction k with
  | zero => intro n h; simp at h; subst h; rfl
  | succ k ih =>
    intro n h
    have := ih (n / 256) (by rw [Nat.pow_succ] at h; omega)
    simp only [putN, getN, this]
    have hm : (UInt8.ofNat (n % 256)).toNat = n % 256 := by simp
    rw [hm]; omega
theorem getN_snoc (l : List UInt8) : ∀ c, getN (l ++ [c]) = getN l + c.toNat * 256 ^ l.length := by
  induction l with
  | nil => intro c; simp [getN]
  | cons d l ih =>
    intro c
    simp only [List.cons_append, getN, ih, List.length_cons]
    rw [show (256 : Nat) ^ (l.length + 1) = 256 * 256 ^ l.length by rw [Nat.pow_succ, Nat.mul_comm]]
    rw [Nat.mul_add, Nat.add_assoc]
    congr 2
    rw [← Nat.mul_assoc, ← Nat.mul_assoc, Nat.mul_comm 256 c.toNat]
theorem getN_lt (l : List UInt8) : getN l < 256 ^ l.length := by
  induction l with
  | nil => simp [getN]
  | cons c l ih =>
    have := c.toNat_lt
    simp only [getN, List.length_cons]
    rw [show (256 : Nat) ^ (l.length + 1) = 256 * 256 ^ l.length by rw [Nat.pow_succ, Nat.mul_comm]]
    omega
theorem fill_set (L : List UInt8) (j : Nat) (h : j < L.length) : (L.take j ++ List.replicate (L.length - j) 0).set j (byteAt L j) = L.take (j + 1) ++ List.replicate (L.length - (j + 1)) 0 := by
  have e : L.length - j = (L.length - (j + 1)) + 1 := by omega
  rw [e, List.replicate_succ, List.set_append, if_neg (by rw [List.length_take]; omega)]
  rw [List.length_take, Nat.min_eq_left (by omega), Nat.sub_self, List.set_cons_zero, List.take_succ_eq_append_getElem h, byteAt_eq L j h, List.append_assoc]
  rfl
theorem div_pow (n k : Nat) : (n : Int) / 2 ^ (8 * k) = ((n / 256 ^ k : Nat) : Int) := by
  rw [Int.natCast_ediv, Int.natCast_pow]
  congr 1
  rw [Int.pow_mul]
  rfl
theorem put_any (w : World) (n k : Nat) (hk : 1 ≤ k) (hk7 : k ≤ 7) (hn : n < 256 ^ k) : Calls Tryz.prog 75 #[I n, I k] w fun e w' => e = .returned (.tuple #[S (putN k n), I 0]) ∧ Kept [] w w' := by
  have hkI : (1 : Int) ≤ k := by omega
  have hk7I : (k : Int) ≤ 7 := by omega
  have hM := make_bytes w k (by omega)
  have hz : ((n : Int) / 2 ^ (8 * k) != 0) = false := by
    rw [div_pow, Nat.div_eq_of_lt hn]; rfl
  have hlen := putN_len k n
  have hrow : Row (w.alloc (.cells (Lib.byteCells (zerosL k)).toArray 5)) w.heap.size (zerosL k) := heap_new w _
  have hkp : Kept [] w (w.alloc (.cells (Lib.byteCells (zerosL k)).toArray 5)) := (Kept.refl _ _).alloc _
  have H0 := Lib.hid (And.intro hrow hkp)
  have HP := Lib.hid (fun i hi => putN_at k n i hi)
  obtain ⟨L, hL⟩ : ∃ L, putN k n = L := ⟨_, rfl⟩
  rw [hL] at hlen HP ⊢
  have HL := Lib.hid hlen
  clear hrow hkp hn hlen hL
  go_enter Tryz.func75, Tryz.ntmps75
  go_wp2_with (fail)
  go_loopw [29] (fun i wr => ∃ j : Nat, j ≤ k ∧ i = I j ∧ Row wr w.heap.size (L.take j ++ List.replicate (L.length - j) 0) ∧ Kept [] w wr) (fun i _ => k - (intOf i).toNat)
  case atStart => exact ⟨0, by omega, rfl, by rw [List.take_zero, List.nil_append, HL.out]; exact H0.out.1, H0.out.2⟩
  case round =>
    obtain ⟨j, hj, rfl, h3, k3⟩ := hrel
    by_cases hlt : j < k
    · have hltI : (j : Int) < k := by omega
      have hc := h3.cell j (by simp [HL.out]; omega)
      have hfree := h3.free
      have hv : IntKind.u8.wrap ((n : Int) / 2 ^ (8 * j)) = ((byteAt L j).toNat : Int) := by
        rw [div_pow, IntKind.wrap_u8, HP.out j hlt]
        simp
      have H3 := Lib.hid (And.intro h3 k3)
      clear h3 k3
      go_wp2_with (fail)
      go_roundw
      case rel =>
        have z1 := H3.out.1.set j (byteAt L j)
        rw [fill_set L j (by rw [HL.out]; exact hlt)] at z1
        have z2 := H3.out.2.setCell (.inr (Nat.le_refl _) : (⟨w.heap.size, j, none⟩ : Addr).block ∈ [] ∨ _) (B (byteAt L j))
        exact ⟨j + 1, by omega, by go_num, z1, z2⟩
      case measure => simp [intOf]; omega
    · have hje : j = k := by omega
      subst hje
      rw [HL.out, Nat.sub_self, List.take_of_length_le (by rw [HL.out]; exact Nat.le_refl _)] at h3
      simp only [List.replicate_zero, List.append_nil] at h3
      have hcv := conv_row h3 j
      rw [HL.out] at hcv
      have H3 := Lib.hid (And.intro h3 k3)
      clear h3 k3
      go_wp2_with (fail)
      go_ret2
      exact ⟨rfl, H3.out.2⟩
theorem or_next (a c k : Nat) (ha : a < 256 ^ k) (hc : c < 256) (hk : k ≤ 6) : bits .or .i64 (a : Int) (wrap64 ((c : Int) * 2 ^ (8 * k))) = ((a + c * 256 ^ k : Nat) : Int) := by
  have hp : 256 ^ k = 2 ^ (8 * k) := by rw [Nat.pow_mul]
  have hle : 256 ^ k ≤ 256 ^ 6 := Nat.pow_le_pow_right (by decide) hk
  have h6 : (256 : Nat) ^ 6 = 281474976710656 := by decide
  have hm : c * 256 ^ k ≤ 255 * 281474976710656 := Nat.mul_le_mul (by omega) (by omega)
  have e : (c : Int) * 2 ^ (8 * k) = ((c * 256 ^ k : Nat) : Int) := by
    rw [hp, Int.natCast_mul, Int.natCast_pow]
    rfl
  rw [e]
  have hw : wrap64 ((c * 256 ^ k : Nat) : Int) = ((c * 256 ^ k : Nat) : Int) := by
    unfold wrap64; omega
  rw [hw]
  have hor : (c * 256 ^ k) ||| a = c * 256 ^ k + a := by
    rw [hp, ← Nat.shiftLeft_eq, Nat.shiftLeft_add_eq_or_of_lt (by rw [← hp]; exact ha)]
  have key : (BitVec.ofInt 64 (a : Int) ||| BitVec.ofInt 64 ((c * 256 ^ k : Nat) : Int)).toNat = a + c * 256 ^ k := by
    rw [BitVec.toNat_or, BitVec.toNat_ofInt, BitVec.toNat_ofInt, Nat.or_comm]
    rw [show (((c * 256 ^ k : Nat) : Int) % ((2 ^ 64 : Nat) : Int)).toNat = c * 256 ^ k by omega, show ((a : Int) % ((2 ^ 64 : Nat) : Int)).toNat = a by omega, hor]
    omega
  show IntKind.i64.wrap (((BitVec.ofInt 64 (a : Int) ||| BitVec.ofInt 64 ((c * 256 ^ k : Nat) : Int)).toNat : Nat) : Int) = _
  rw [key, IntKind.wrap_i64]
  omega
theorem get_any (w : World) (s : List UInt8) (h1 : s ≠ []) (h7 : s.length ≤ 7) : Calls Tryz.prog 74 #[S s] w fun e w' => e = .returned (.tuple #[I (getN s), I 0]) ∧ w' = w := by
  have hse : (s == []) = false := by simpa using h1
  have hse2 : s.isEmpty = false := by simpa using h1
  have hlI : (s.length : Int) ≤ 7 := by omega
  clear h1
  go_enter Tryz.func74, Tryz.ntmps74
  go_wp2_with (fail)
  go_loopw [4, 15] (fun v i wr => ∃ k : Nat, k ≤ s.length ∧ i = I k ∧ v = I (getN (s.take k)) ∧ wr = w) (fun _ i _ => s.length - (intOf i).toNat)
  case atStart => exact ⟨0, by omega, rfl, rfl, rfl⟩
  case round =>
    obtain ⟨k, hk, rfl, rfl, hw⟩ := hrel
    replace hw := hw.symm
    subst hw
    by_cases hlt : k < s.length
    · have hltI : (k : Int) < s.length := by omega
      have hv : bits .or .i64 (getN (s.take k) : Int) (wrap64 (((byteAt s k).toNat : Int) * 2 ^ (8 * k))) = (getN (s.take (k + 1)) : Int) := by
        rw [or_next _ _ _ (by have := getN_lt (s.take k); rwa [List.length_take, Nat.min_eq_left hk] at this) (byteAt s k).toNat_lt (by omega)]
        rw [List.take_succ_eq_append_getElem hlt, getN_snoc, byteAt_eq s k hlt, List.length_take, Nat.min_eq_left hk]
      have HV := Lib.hid hv
      clear hv
      go_wp2_with (fail)
      go_roundw
      case rel => exact ⟨k + 1, by omega, by go_num, by rw [HV.out], trivial⟩
      case measure => simp [intOf]; omega
    · have hke : k = s.length := by omega
      subst hke
      rw [List.take_length]
      go_wp2_with (fail)
      go_ret2
      exact ⟨rfl, rfl⟩
end
section
open Go.RowKit
set_option linter.unusedVariables false
set_option linter.unusedSimpArgs false
set_option maxHeartbeats 8000000
set_option maxRecDepth 100000
abbrev Sg := Nat × Nat
def segCells (l : List Sg) : List Value := l.flatMap fun s => [I s.1, I s.2]
theorem segCells_len (l : List Sg) : (segCells l).length = l.length * 2 := by
  induction l with
  | nil => rfl
  | cons s l ih => simp only [segCells, List.flatMap_cons, List.length_append, List.length_cons, List.length_nil] at ih ⊢; omega
structure LgAt (w : World) (lb pb fb bb cb fs n : Nat) (v : Value) (segs : List Sg) (f : Fl) (dead : Bool) : Prop where
  blk : w.heap[lb]? = some (.cells #[Ptr pb, v, .bool dead] 206 (0, 0))
  own : w.ownsRow (lb + 1) 214 2 v segs.length (segCells segs)
  pt : PtAt w pb fb bb cb fs n f
  n1 : pb < lb
  n2 : fb < lb
  n3 : bb < lb
  n4 : cb < lb
/-- The blocks that the log's calls may turn. -/
def LgT (lb fb bb cb : Nat) (v : Value) : List Nat := [lb, fb, bb, cb] ++ v.ownBlock.toList
def Fresh (w : World) (v v' : Value) : Prop := ∀ q, v'.ownBlock = some q → v.ownBlock = some q ∨ w.heap.size ≤ q
def LgPost (r : Value) (lb pb fb bb cb fs n : Nat) (v : Value) (w : World) (segs : List Sg) (f : Fl) (dead : Bool) (e : Ending) (w' : World) : Prop :=
  e = .returned r ∧ ∃ v', Fresh w v v' ∧ LgAt w' lb pb fb bb cb fs n v' segs f dead ∧ Kept (LgT lb fb bb cb v) w w'
section
variable {w : World} {lb pb fb bb cb fs n : Nat} {v : Value} {segs : List Sg} {f : Fl} {dead : Bool}
theorem LgAt.lt (h : LgAt w lb pb fb bb cb fs n v segs f dead) : lb < w.heap.size := lt_of_block h.blk
theorem LgAt.cells (h : LgAt w lb pb fb bb cb fs n v segs f dead) : w.cell? ⟨lb, 0, none⟩ = some (Ptr pb) ∧ w.cell? ⟨lb, 1, none⟩ = some v ∧ w.cell? ⟨lb, 2, none⟩ = some (.bool dead) := by
  refine ⟨?_, ?_, ?_⟩ <;> (rw [cell_at h.blk]; rfl)
theorem LgAt.free (h : LgAt w lb pb fb bb cb fs n v segs f dead) (i : Nat) : w.frozen? ⟨lb, i, none⟩ = false := free_at h.blk i
theorem own_kept {w' : World} {B : Nat} {t : TypeId} {size : Nat} {v : Value} {n : Nat} {xs : List Value} {T : List Nat} (h : w.ownsRow B t size v n xs) (k : Kept T w w') (hn : ∀ q, v.ownBlock = some q → q ∉ T) : w'.ownsRow B t size v n xs := by
  refine ⟨h.1, ?_⟩
  rcases h.2 with h0 | ⟨g, cap, cur, e, hb, hg, hr⟩
  · exact .inl h0
  · exact .inr ⟨g, cap, cur, e, hb, k.at hg (hn g (by rw [e]; rfl)), hr⟩
theorem own_lt {B : Nat} {t : TypeId} {size : Nat} {v : Value} {n : Nat} {xs : List Value} (h : w.ownsRow B t size v n xs) : ∀ q, v.ownBlock = some q → B ≤ q ∧ q < w.heap.size := by
  intro q hq
  rcases h.2 with ⟨rfl, _⟩ | ⟨g, cap, cur, rfl, hb, hg, _⟩
  · cases hq
  · have : g = q := by simpa [Value.ownBlock] using hq
    subst this
    exact ⟨hb, lt_of_block hg⟩
theorem LgAt.kept {w' : World} {T : List Nat} (h : LgAt w lb pb fb bb cb fs n v segs f dead) (k : Kept T w w') (h0 : lb ∉ T) (h1 : pb ∉ T) (h2 : fb ∉ T) (h3 : bb ∉ T) (h4 : cb ∉ T) (h5 : ∀ q, v.ownBlock = some q → q ∉ T) : LgAt w' lb pb fb bb cb fs n v segs f dead :=
  ⟨k.at h.blk h0, own_kept h.own k h5, h.pt.kept k h1 h2 h3 h4, h.n1, h.n2, h.n3, h.n4⟩
theorem LgAt.same {w' : World} (h : LgAt w lb pb fb bb cb fs n v segs f dead) (k : Kept [] w w') : LgAt w' lb pb fb bb cb fs n v segs f dead := h.kept k (by simp) (by simp) (by simp) (by simp) (by simp) (by simp)
theorem LgAt.drew (h : LgAt w lb pb fb bb cb fs n v segs f dead) : LgAt w.drew lb pb fb bb cb fs n v segs f dead := h.same ((Kept.refl _ _).drew)
/-- The flash has turned. -/
theorem LgAt.turned {w' : World} {f' : Fl} (h : LgAt w lb pb fb bb cb fs n v segs f dead) (k : Kept [fb, bb, cb] w w') (hp : PtAt w' pb fb bb cb fs n f') : LgAt w' lb pb fb bb cb fs n v segs f' dead :=
  ⟨k.at h.blk (by have := h.n2; have := h.n3; have := h.n4; simp; omega), own_kept h.own k (fun q hq hm => by
    have := (own_lt h.own q hq).1
    have := h.n2
    have := h.n3
    have := h.n4
    simp at hm; omega), hp, h.n1, h.n2, h.n3, h.n4⟩
theorem LgAt.setDead (h : LgAt w lb pb fb bb cb fs n v segs f dead) (d : Bool) : LgAt (w.setCell ⟨lb, 2, none⟩ (.bool d)) lb pb fb bb cb fs n v segs f d := by
  have k : Kept [lb] w (w.setCell ⟨lb, 2, none⟩ (.bool d)) := (Kept.refl _ _).setCell (.inl (by simp)) _
  refine ⟨heap_setCell_at h.blk 2 _, own_kept h.own k (fun q hq hm => ?_), h.pt.kept k (by have := h.n1; simp; omega) (by have := h.n2; simp; omega) (by have := h.n3; simp; omega) (by have := h.n4; simp; omega), h.n1, h.n2, h.n3, h.n4⟩
  have := (own_lt h.own q hq).1
  simp at hm; omega
theorem LgT.sub3 {w' : World} (k : Kept [fb, bb, cb] w w') : Kept (LgT lb fb bb cb v) w w' := k.mono (by intro x hx; simp [LgT] at hx ⊢; omega)
theorem LgT.sub1 {w' : World} (k : Kept [lb] w w') : Kept (LgT lb fb bb cb v) w w' := k.mono (by intro x hx; simp [LgT] at hx ⊢; omega)
theorem LgT.sub0 {w' : World} (k : Kept [] w w') : Kept (LgT lb fb bb cb v) w w' := k.mono (by simp)
theorem Fresh.refl (w : World) (v : Value) : Fresh w v v := fun _ h => .inl h
end
theorem lblocks_any (w : World) (lb pb fb bb cb fs n : Nat) (v : Value) (segs : List Sg) (f : Fl) (dead : Bool) (h : LgAt w lb pb fb bb cb fs n v segs f dead) : Calls Tryz.prog 148 #[Ptr lb] w fun e w' => e = .returned (I n) ∧ w' = w := by
  obtain ⟨c0, c1, c2⟩ := h.cells
  have HS := Lib.hid (size_any w pb fb bb cb fs n f h.pt)
  have hb := h.pt.bound.1
  have hd : ((n * 512 : Nat) : Int) / 512 = n := by omega
  have hb2 : ((n * 512 : Nat) : Int) ≤ 131072 := by omega
  have hb3 : (0 : Int) ≤ ((n * 512 : Nat) : Int) := by omega
  obtain ⟨N, hN⟩ : ∃ N : Nat, n * 512 = N := ⟨_, rfl⟩
  rw [hN] at HS hd hb2 hb3
  clear h hb hN
  go_enter Tryz.func148, Tryz.ntmps148
  go_wp2_with (fail)
  refine HS.out.mono ?_
  rintro e w1 ⟨rfl, rfl⟩
  go_wp2_with (fail)
  go_ret
  exact ⟨rfl, rfl⟩
theorem ltold_any (w : World) (lb pb fb bb cb fs n : Nat) (v : Value) (segs : List Sg) (f : Fl) (dead : Bool) (h : LgAt w lb pb fb bb cb fs n v segs f dead) (k : Int) :
    Calls Tryz.prog 178 #[Ptr lb, I k] w fun e w' => e = .returned (I k) ∧ LgAt w' lb pb fb bb cb fs n v segs f (dead || k == 2) ∧ Kept [lb] w w' := by
  obtain ⟨c0, c1, c2⟩ := h.cells
  have hf := h.free
  have H := Lib.hid h
  clear h
  go_enter Tryz.func178, Tryz.ntmps178
  cases dead with
  | true =>
    go_wp2_with (fail)
    go_ret
    exact ⟨rfl, H.out.setDead true, (Kept.refl _ _).setCell (.inl (by simp)) _⟩
  | false =>
    go_wp2_with (fail)
    go_ret
    exact ⟨rfl, H.out.setDead (k == 2), (Kept.refl _ _).setCell (.inl (by simp)) _⟩
def blockOf (bs : List UInt8) (k : Nat) : List UInt8 := (bs.drop (512 * k)).take 512
/-- A block that is clean is left as it is. -/
theorem lclean_any (w : World) (lb pb fb bb cb fs n : Nat) (v : Value) (segs : List Sg) (f : Fl) (h : LgAt w lb pb fb bb cb fs n v segs f false) (hd : f.dead = false) (k : Nat) (hk : k < n) (hc : allB (blockOf f.bs (fs + k)) = true) :
    Calls Tryz.prog 149 #[Ptr lb, I k] w fun e w' => e = .returned (I 0) ∧ LgAt w' lb pb fb bb cb fs n v segs f false ∧ Kept [lb] w w' := by
  obtain ⟨c0, c1, c2⟩ := h.cells
  have hb := h.pt.bound.1
  have hc1 := clean_any w pb fb bb cb fs n f h.pt hd (k * 512) 512 (by omega) (by omega)
  rw [show ((512 : Nat) : Int) = 512 from rfl] at hc1
  have HC := Lib.hid hc1
  have he : (f.bs.drop (512 * fs + k * 512)).take 512 = blockOf f.bs (fs + k) := by unfold blockOf; congr 2; omega
  rw [he, hc] at HC
  have HT := Lib.hid (ltold_any w lb pb fb bb cb fs n v segs f false h 0)
  have hkI : (k : Int) ≤ 256 := by omega
  have hkm : (k : Int) * 512 = (k * 512 : Nat) := by omega
  have hkb : ((k * 512 : Nat) : Int) ≤ 131072 := by omega
  have hkb0 : (0 : Int) ≤ ((k * 512 : Nat) : Int) := by omega
  obtain ⟨N, hN⟩ : ∃ N : Nat, k * 512 = N := ⟨_, rfl⟩
  rw [hN] at HC hkm hkb hkb0
  clear h hd hk hc he hb hc1 hN
  go_enter Tryz.func149, Tryz.ntmps149
  go_wp2_with (fail)
  refine HC.out.mono ?_
  rintro e w1 ⟨rfl, rfl⟩
  go_wp2_with (fail)
  refine HT.out.mono ?_
  rintro e w2 ⟨rfl, h2, k2⟩
  go_wp2_with (fail)
  go_ret
  exact ⟨rfl, h2, k2⟩
theorem one_conv (w : World) (c : UInt8) : (convert 75 9 (.slice (some ⟨w.heap.size, 0, none⟩) 1 1)).run Tryz.prog (w.alloc (.cells #[B c] 5)) = .ok (S [c]) (w.alloc (.cells #[B c] 5)) := by
  have h : Row (w.alloc (.cells #[B c] 5)) w.heap.size [c] := heap_new w _
  exact conv_row h 1
theorem begin_any (w : World) (k : Nat) (hk : k < 256 ^ 6) : Calls Tryz.prog 181 #[I k] w fun e w' => e = .returned (S (83 :: putN 6 k)) ∧ Kept [] w w' := by
  have HP := Lib.hid (put_any w k 6 (by omega) (by omega) hk)
  have hl := putN_len 6 k
  obtain ⟨L, hL⟩ : ∃ L, putN 6 k = L := ⟨_, rfl⟩
  rw [hL] at HP hl ⊢
  clear hL
  go_enter Tryz.func181, Tryz.ntmps181
  go_wp2_with (fail)
  refine HP.out.mono ?_
  rintro e w1 ⟨rfl, k1⟩
  have K1 := Lib.hid k1
  clear k1
  have hcv : (convert 75 9 (.slice (some ⟨w1.heap.size, 0, none⟩) 1 1)).run Tryz.prog (w1.alloc (.cells #[.int .u8 83] 5)) = .ok (S [83]) (w1.alloc (.cells #[.int .u8 83] 5)) := one_conv w1 83
  go_wp2_with (fail)
  go_ret
  exact ⟨rfl, K1.out.alloc _⟩
end
end Go.Proofs.YtncdfaocemfgfaaGreatDoor
