/- Walks and lemmas on the program of this seat, used by its statements; each theorem bears its own conditions. -/
import Derived.Test.YteplbljjlbdhaaaGreatDoorZ3
import Derived.Test.YteplbljjlbdhaaaGreatDoorZ1
import Derived.Deep.RegionLaw
namespace Go.Proofs.YteplbljjlbdhaaaGreatDoor
open Go.RowKit
set_option linter.unusedVariables false
set_option linter.unusedSimpArgs false
set_option linter.unusedSectionVars false
set_option maxHeartbeats 16000000
set_option maxRecDepth 100000
theorem FlAt.drew {w : World} {fb bb cb : Nat} {f : Fl} (h : FlAt w fb bb cb f) : FlAt w.drew fb bb cb f := ⟨h.blk, h.row, h.cnt, h.n1, h.n2, h.n3, h.len, h.few, h.pos⟩
structure PtAt (w : World) (pb fb bb cb : Nat) (fs n : Nat) (f : Fl) : Prop where
 blk : w.heap[pb]? = some (.cells #[Ptr fb, I fs, I n] 132 (0, 0))
 fl : FlAt w fb bb cb f
 fit : fs + n ≤ f.cs.length
 np : 1 ≤ n
 n1 : fb ≠ pb
 n2 : bb ≠ pb
 n3 : cb ≠ pb
section
variable {w : World} {pb fb bb cb fs n : Nat} {f : Fl}
theorem PtAt.cells (h : PtAt w pb fb bb cb fs n f) : w.cell? ⟨pb, 0, none⟩ = some (Ptr fb) ∧ w.cell? ⟨pb, 1, none⟩ = some (I fs) ∧ w.cell? ⟨pb, 2, none⟩ = some (I n) := by
 refine ⟨?_, ?_, ?_⟩ <;> (rw [cell_at h.blk]; rfl)
theorem PtAt.kept {w' : World} {T : List Nat} (h : PtAt w pb fb bb cb fs n f) (k : Kept T w w') (h0 : pb ∉ T) (h1 : fb ∉ T) (h2 : bb ∉ T) (h3 : cb ∉ T) : PtAt w' pb fb bb cb fs n f :=
 ⟨k.at h.blk h0, h.fl.kept k h1 h2 h3, h.fit, h.np, h.n1, h.n2, h.n3⟩
theorem PtAt.same {w' : World} (h : PtAt w pb fb bb cb fs n f) (k : Kept [] w w') : PtAt w' pb fb bb cb fs n f := h.kept k (by simp) (by simp) (by simp) (by simp)
theorem PtAt.turned {w' : World} {f' : Fl} (h : PtAt w pb fb bb cb fs n f) (k : Kept [fb, bb, cb] w w') (h2 : FlAt w' fb bb cb f') (hl : f'.cs.length = f.cs.length) : PtAt w' pb fb bb cb fs n f' :=
 ⟨k.at h.blk (by simp; exact ⟨Ne.symm h.n1, Ne.symm h.n2, Ne.symm h.n3⟩), h2, by rw [hl]; exact h.fit, h.np, h.n1, h.n2, h.n3⟩
theorem PtAt.bound (h : PtAt w pb fb bb cb fs n f) : fs + n ≤ 256 ∧ 512 * fs + 512 * n ≤ f.bs.length := by
 have := h.fit
 have := h.fl.few
 have := h.fl.len
 omega
end
def PtPost (v : Value) (pb fb bb cb fs n : Nat) (w : World) (f : Fl) (e : Ending) (w' : World) : Prop := e = .returned v ∧ PtAt w' pb fb bb cb fs n f ∧ Kept [fb, bb, cb] w w'
theorem size_any (w : World) (pb fb bb cb fs n : Nat) (f : Fl) (h : PtAt w pb fb bb cb fs n f) : Calls Tryz.prog 74 #[Ptr pb] w fun e w' => e = .returned (I (n * 512 : Nat)) ∧ w' = w := by
 obtain ⟨c0, c1, c2⟩ := h.cells
 have hb := h.bound.1
 have hbI : (fs : Int) + n ≤ 256 := by omega
 clear h
 go_enter Tryz.func74, Tryz.ntmps74
 go_wp2_with (fail)
 go_ret
 exact ⟨by simp, rfl⟩
theorem pdead_any (w : World) (pb fb bb cb fs n : Nat) (f : Fl) (h : PtAt w pb fb bb cb fs n f) : Calls Tryz.prog 140 #[Ptr pb] w fun e w' => e = .returned (.bool f.dead) ∧ w' = w := by
 obtain ⟨c0, c1, c2⟩ := h.cells
 have HF := Lib.hid (fdead_any w fb bb cb f h.fl)
 clear h
 go_enter Tryz.func140, Tryz.ntmps140
 go_wp2_with (fail)
 refine HF.out.mono ?_
 rintro e w1 ⟨rfl, rfl⟩
 go_wp2_with (fail)
 go_ret
 exact ⟨rfl, rfl⟩
theorem place_any (w : World) (pb fb bb cb fs n : Nat) (f : Fl) (h : PtAt w pb fb bb cb fs n f) (a k : Nat) (hk : a + k ≤ 512 * n) : Calls Tryz.prog 161 #[Ptr pb, I a, I k] w fun e w' => e = .returned (.tuple #[I (512 * fs + a : Nat), .bool true]) ∧ w' = w := by
 obtain ⟨c0, c1, c2⟩ := h.cells
 have HS := Lib.hid (size_any w pb fb bb cb fs n f h)
 have hb := h.bound.1
 have hbI : (fs : Int) + n ≤ 256 := by omega
 have hkI : (a : Int) + k ≤ 512 * n := by omega
 have h1 : (a : Int) ≤ (n * 512 : Nat) := by omega
 have h2 : (k : Int) ≤ (n * 512 : Nat) - (a : Int) := by omega
 have h0 : (n * 512 : Nat) ≤ 131072 := by omega
 have h0I : ((n * 512 : Nat) : Int) ≤ 131072 := by omega
 have hfin : (fs : Int) * 512 + a = (512 * fs + a : Nat) := by omega
 have HFIN := Lib.hid hfin
 obtain ⟨N, hN⟩ : ∃ N : Nat, n * 512 = N := ⟨_, rfl⟩
 rw [hN] at HS h1 h2 h0 h0I
 clear h hk hfin hN
 go_enter Tryz.func161, Tryz.ntmps161
 go_wp2_with (fail)
 refine HS.out.mono ?_
 rintro e w1 ⟨rfl, rfl⟩
 go_wp2_with (fail)
 refine HS.out.mono ?_
 rintro e w1 ⟨rfl, rfl⟩
 go_wp2_with (fail)
 go_ret2
 exact ⟨by rw [HFIN.out]; rfl, rfl⟩
theorem pread_any (w : World) (pb fb bb cb fs n : Nat) (f : Fl) (h : PtAt w pb fb bb cb fs n f) (hd : f.dead = false) (a k : Nat) (hp : 1 ≤ k) (hk : a + k ≤ 512 * n) : Calls Tryz.prog 158 #[Ptr pb, I a, I k] w fun e w' => e = .returned (.tuple #[S ((f.bs.drop (512 * fs + a)).take k), I 0]) ∧ w' = w := by
 obtain ⟨c0, c1, c2⟩ := h.cells
 have HP := Lib.hid (place_any w pb fb bb cb fs n f h a k hk)
 have HR := Lib.hid (fread_any w fb bb cb f h.fl hd (512 * fs + a) k hp (by have := h.bound.2; omega))
 obtain ⟨N, hN⟩ : ∃ N : Nat, 512 * fs + a = N := ⟨_, rfl⟩
 rw [hN] at HP HR ⊢
 clear h hN
 go_enter Tryz.func158, Tryz.ntmps158
 go_wp2_with (fail)
 refine HP.out.mono ?_
 rintro e w1 ⟨rfl, rfl⟩
 go_wp2_with (fail)
 refine HR.out.mono ?_
 rintro e w1 ⟨rfl, rfl⟩
 go_wp2_with (fail)
 go_ret2
 exact ⟨rfl, rfl⟩
def allB (l : List UInt8) : Bool := l.all fun c => c == 255
theorem count_all (l : List UInt8) : (((Lib.countByte l 255 : Nat) : Int) == (l.length : Int)) = allB l := by
 unfold allB Lib.countByte
 rw [Bool.eq_iff_iff]
 simp only [beq_iff_eq, List.all_eq_true]
 rw [show (((l.count 255 : Nat) : Int) = (l.length : Int)) ↔ l.count 255 = l.length by omega, List.count_eq_length]
 exact ⟨fun h x hx => (h x hx).symm, fun h x hx => (h x hx).symm⟩
theorem clean_any (w : World) (pb fb bb cb fs n : Nat) (f : Fl) (h : PtAt w pb fb bb cb fs n f) (hd : f.dead = false) (a k : Nat) (hp : 1 ≤ k) (hk : a + k ≤ 512 * n) : Calls Tryz.prog 130 #[Ptr pb, I a, I k] w fun e w' => e = .returned (.tuple #[.bool (allB ((f.bs.drop (512 * fs + a)).take k)), I 0]) ∧ w' = w := by
 have HR := Lib.hid (pread_any w pb fb bb cb fs n f h hd a k hp hk)
 obtain ⟨l, hl⟩ : ∃ l, (f.bs.drop (512 * fs + a)).take k = l := ⟨_, rfl⟩
 have hll : l.length ≤ 131072 := by rw [← hl]; have := h.fl.size; simp; omega
 have hllI : (l.length : Int) ≤ 131072 := by omega
 have hc := Tryz.strings_Count_one ⟨l.toArray⟩ 255 w
 have HC : Hid (Calls Tryz.prog 159 #[S l, S [255]] w fun e w' => e = .returned (I (Lib.countByte l 255)) ∧ w' = w) := Lib.hid (by simpa using hc)
 rw [hl] at HR ⊢
 have HA := Lib.hid (count_all l)
 clear h hc hl
 go_enter Tryz.func130, Tryz.ntmps130
 go_wp2_with (fail)
 refine HR.out.mono ?_
 rintro e w1 ⟨rfl, rfl⟩
 go_wp2_with (fail)
 refine HC.out.mono ?_
 rintro e w1 ⟨rfl, rfl⟩
 go_wp2_with (fail)
 go_ret2
 exact ⟨by rw [← HA.out]; rfl, rfl⟩
def lenV (v : Value) : Nat := match v with | .string b => b.size | _ => 0
theorem pwrite_any (w : World) (pb fb bb cb fs n : Nat) (f : Fl) (h : PtAt w pb fb bb cb fs n f) (hd : f.dead = false) (ha : f.armed = 0) (a : Nat) (s : List UInt8) (hs : s ≠ []) (hk : a + s.length ≤ 512 * n) (hp : a % 64 + s.length ≤ 64) :
  Calls Tryz.prog 133 #[Ptr pb, I a, S s] w (PtPost (I 0) pb fb bb cb fs n w { f.stepped with bs := progL f.bs (512 * fs + a) s }) := by
 have HP := Lib.hid (place_any w pb fb bb cb fs n f h a s.length hk)
 have hpos : 1 ≤ s.length := by have := List.length_pos_iff.2 hs; omega
 have HG := Lib.hid (fun W (h : FlAt W fb bb cb f) => prog_any W fb bb cb f h hd ha (512 * fs + a) s hs (by have := h.len; have := hk; have := ‹PtAt w pb fb bb cb fs n f›.bound.2; omega) (by omega))
 have hmin : min (s.length : Int) (64 - ((512 * fs + a : Nat) : Int) % 64) = s.length := by omega
 have hb := h.bound.1
 have hN2 : ((512 * fs + a : Nat) : Int) ≤ 262144 := by omega
 obtain ⟨N, hN⟩ : ∃ N : Nat, 512 * fs + a = N := ⟨_, rfl⟩
 rw [hN] at HP HG hmin hN2 ⊢
 have hse : (s != []) = true := by simpa using hs
 have hse2 : (!s.isEmpty) = true := by simpa using hs
 have hsl : (s.length : Int) ≤ 64 := by omega
 have hposI : (1 : Int) ≤ s.length := by omega
 have H := Lib.hid h
 clear h hN hk hp hs hb
 go_enter Tryz.func133, Tryz.ntmps133
 go_wp2_with (fail)
 refine HP.out.mono ?_
 rintro e w1 ⟨rfl, rfl⟩
 go_wp2_with (fail)
 go_loopw [2, 7] (fun v v7 wr => (v = S s ∧ v7 = I N ∧ wr = w1) ∨ (v = S [] ∧ PtAt wr pb fb bb cb fs n { f.stepped with bs := progL f.bs N s } ∧ Kept [fb, bb, cb] w1 wr)) (fun v _ _ => lenV v)
 case atStart => exact .inl ⟨rfl, rfl, rfl⟩
 case round =>
  rcases hrel with ⟨rfl, rfl, hw⟩ | ⟨rfl, h2, k2⟩
  ·replace hw := hw.symm
   subst hw
   go_upto_region 6 with (fail)
   go_cut [10] from 21 to 46 (fun v wx => v = I 0 ∧ PtAt wx pb fb bb cb fs n { f.stepped with bs := progL f.bs N s } ∧ Kept [fb, bb, cb] w1 wx)
   case first =>
    obtain ⟨c0, c1, c2⟩ := H.out.cells
    go_region_with (first | (go_at_call 162; (with_reducible refine (HG.out _ H.out.fl.drew).mono ?_); rintro e w2 ⟨rfl, h2, k2⟩))
    all_goals
     go_wp2
     go_meet
     exact ⟨rfl, H.out.turned ((Kept.refl _ _).drew.trans' k2) h2 rfl, (Kept.refl _ _).drew.trans' k2⟩
   case rest =>
    obtain ⟨rfl, h2, k2⟩ := hcut
    have H2 := Lib.hid (And.intro h2 k2)
    clear h2 k2
    have hw9 : IntKind.i64.wrap ((N : Int) + s.length) = N + s.length := by rw [IntKind.wrap_i64]; omega
    go_wp2_with (fail)
    go_region
    all_goals
     go_wp2
     go_roundw
     case rel => exact .inr ⟨by first | rfl | (simp; rfl), H2.out.1.same ((Kept.refl _ _).drew), H2.out.2.drew⟩
     case measure => simp [lenV, ByteArray.size]; omega
  ·go_wp2_with (fail)
   go_ret
   exact ⟨rfl, h2, k2⟩
def putN : Nat → Nat → List UInt8
 | 0, _ => []
 | k + 1, n => UInt8.ofNat (n % 256) :: putN k (n / 256)
def getN : List UInt8 → Nat
 | [] => 0
 | c :: l => c.toNat + 256 * getN l
theorem putN_len (k : Nat) : ∀ n, (putN k n).length = k := by
 induction k with
 | zero => intro n; rfl
 | succ k ih => intro n; simp [putN, ih]
theorem putN_at (k : Nat) : ∀ (n i : Nat), i < k → byteAt (putN k n) i = UInt8.ofNat (n / 256 ^ i % 256) := by
 induction k with
 | zero => intro n i h; omega
 | succ k ih =>
  intro n i h
  cases i with
  | zero => simp [putN, byteAt]
  | succ i =>
   have := ih (n / 256) i (by omega)
   rw [Nat.div_div_eq_div_mul] at this
   rw [show (256 : Nat) ^ (i + 1) = 256 * 256 ^ i by rw [Nat.pow_succ, Nat.mul_comm]]
   rw [← this]
   rfl
theorem getN_put (k : Nat) : ∀ n, n < 256 ^ k → getN (putN k n) = n := by
 induction k with
 | zero => intro n h; simp at h; subst h; rfl
 | succ k ih =>
  intro n h
  have := ih (n / 256) (by rw [Nat.pow_succ] at h; omega)
  simp only [putN, getN, this]
  have hm : (UInt8.ofNat (n % 256)).toNat = n % 256 := by simp
  rw [hm]; omega
theorem getN_snoc (l : List UInt8) : ∀ c, getN (l ++ [c]) = getN l + c.toNat * 256 ^ l.length := by
 induction l with
 | nil => intro c; simp [getN]
 | cons d l ih =>
  intro c
  simp only [List.cons_append, getN, ih, List.length_cons]
  rw [show (256 : Nat) ^ (l.length + 1) = 256 * 256 ^ l.length by rw [Nat.pow_succ, Nat.mul_comm]]
  rw [Nat.mul_add, Nat.add_assoc]
  congr 2
  rw [← Nat.mul_assoc, ← Nat.mul_assoc, Nat.mul_comm 256 c.toNat]
theorem getN_lt (l : List UInt8) : getN l < 256 ^ l.length := by
 induction l with
 | nil => simp [getN]
 | cons c l ih =>
  have := c.toNat_lt
  simp only [getN, List.length_cons]
  rw [show (256 : Nat) ^ (l.length + 1) = 256 * 256 ^ l.length by rw [Nat.pow_succ, Nat.mul_comm]]
  omega
theorem fill_set (L : List UInt8) (j : Nat) (h : j < L.length) : (L.take j ++ List.replicate (L.length - j) 0).set j (byteAt L j) = L.take (j + 1) ++ List.replicate (L.length - (j + 1)) 0 := by
 have e : L.length - j = (L.length - (j + 1)) + 1 := by omega
 rw [e, List.replicate_succ, List.set_append, if_neg (by rw [List.length_take]; omega)]
 rw [List.length_take, Nat.min_eq_left (by omega), Nat.sub_self, List.set_cons_zero, List.take_succ_eq_append_getElem h, byteAt_eq L j h, List.append_assoc]
 rfl
theorem div_pow (n k : Nat) : (n : Int) / 2 ^ (8 * k) = ((n / 256 ^ k : Nat) : Int) := by
 rw [Int.natCast_ediv, Int.natCast_pow]
 congr 1
 rw [Int.pow_mul]
 rfl
theorem put_any (w : World) (n k : Nat) (hk : 1 ≤ k) (hk7 : k ≤ 7) (hn : n < 256 ^ k) : Calls Tryz.prog 80 #[I n, I k] w fun e w' => e = .returned (.tuple #[S (putN k n), I 0]) ∧ Kept [] w w' := by
 have hkI : (1 : Int) ≤ k := by omega
 have hk7I : (k : Int) ≤ 7 := by omega
 have hM := make_bytes w k (by omega)
 have hz : ((n : Int) / 2 ^ (8 * k) != 0) = false := by
  rw [div_pow, Nat.div_eq_of_lt hn]; rfl
 have hlen := putN_len k n
 have hrow : Row (w.alloc (.cells (Lib.byteCells (zerosL k)).toArray 5)) w.heap.size (zerosL k) := heap_new w _
 have hkp : Kept [] w (w.alloc (.cells (Lib.byteCells (zerosL k)).toArray 5)) := (Kept.refl _ _).alloc _
 have H0 := Lib.hid (And.intro hrow hkp)
 have HP := Lib.hid (fun i hi => putN_at k n i hi)
 obtain ⟨L, hL⟩ : ∃ L, putN k n = L := ⟨_, rfl⟩
 rw [hL] at hlen HP ⊢
 have HL := Lib.hid hlen
 clear hrow hkp hn hlen hL
 go_enter Tryz.func80, Tryz.ntmps80
 go_wp2_with (fail)
 go_loopw [29] (fun i wr => ∃ j : Nat, j ≤ k ∧ i = I j ∧ Row wr w.heap.size (L.take j ++ List.replicate (L.length - j) 0) ∧ Kept [] w wr) (fun i _ => k - (intOf i).toNat)
 case atStart => exact ⟨0, by omega, rfl, by rw [List.take_zero, List.nil_append, HL.out]; exact H0.out.1, H0.out.2⟩
 case round =>
  obtain ⟨j, hj, rfl, h3, k3⟩ := hrel
  by_cases hlt : j < k
  ·have hltI : (j : Int) < k := by omega
   have hc := h3.cell j (by simp [HL.out]; omega)
   have hfree := h3.free
   have hv : IntKind.u8.wrap ((n : Int) / 2 ^ (8 * j)) = ((byteAt L j).toNat : Int) := by
    rw [div_pow, IntKind.wrap_u8, HP.out j hlt]
    simp
   have H3 := Lib.hid (And.intro h3 k3)
   clear h3 k3
   go_wp2_with (fail)
   go_roundw
   case rel =>
    have z1 := H3.out.1.set j (byteAt L j)
    rw [fill_set L j (by rw [HL.out]; exact hlt)] at z1
    have z2 := H3.out.2.setCell (.inr (Nat.le_refl _) : (⟨w.heap.size, j, none⟩ : Addr).block ∈ [] ∨ _) (B (byteAt L j))
    exact ⟨j + 1, by omega, by go_num, z1, z2⟩
   case measure => simp [intOf]; omega
  ·have hje : j = k := by omega
   subst hje
   rw [HL.out, Nat.sub_self, List.take_of_length_le (by rw [HL.out]; exact Nat.le_refl _)] at h3
   simp only [List.replicate_zero, List.append_nil] at h3
   have hcv := conv_row h3 j
   rw [HL.out] at hcv
   have H3 := Lib.hid (And.intro h3 k3)
   clear h3 k3
   go_wp2_with (fail)
   go_ret2
   exact ⟨rfl, H3.out.2⟩
theorem or_next (a c k : Nat) (ha : a < 256 ^ k) (hc : c < 256) (hk : k ≤ 6) : bits .or .i64 (a : Int) (wrap64 ((c : Int) * 2 ^ (8 * k))) = ((a + c * 256 ^ k : Nat) : Int) := by
 have hp : 256 ^ k = 2 ^ (8 * k) := by rw [Nat.pow_mul]
 have hle : 256 ^ k ≤ 256 ^ 6 := Nat.pow_le_pow_right (by decide) hk
 have h6 : (256 : Nat) ^ 6 = 281474976710656 := by decide
 have hm : c * 256 ^ k ≤ 255 * 281474976710656 := Nat.mul_le_mul (by omega) (by omega)
 have e : (c : Int) * 2 ^ (8 * k) = ((c * 256 ^ k : Nat) : Int) := by
  rw [hp, Int.natCast_mul, Int.natCast_pow]
  rfl
 rw [e]
 have hw : wrap64 ((c * 256 ^ k : Nat) : Int) = ((c * 256 ^ k : Nat) : Int) := by
  unfold wrap64; omega
 rw [hw]
 have hor : (c * 256 ^ k) ||| a = c * 256 ^ k + a := by
  rw [hp, ← Nat.shiftLeft_eq, Nat.shiftLeft_add_eq_or_of_lt (by rw [← hp]; exact ha)]
 have key : (BitVec.ofInt 64 (a : Int) ||| BitVec.ofInt 64 ((c * 256 ^ k : Nat) : Int)).toNat = a + c * 256 ^ k := by
  rw [BitVec.toNat_or, BitVec.toNat_ofInt, BitVec.toNat_ofInt, Nat.or_comm]
  rw [show (((c * 256 ^ k : Nat) : Int) % ((2 ^ 64 : Nat) : Int)).toNat = c * 256 ^ k by omega, show ((a : Int) % ((2 ^ 64 : Nat) : Int)).toNat = a by omega, hor]
  omega
 show IntKind.i64.wrap (((BitVec.ofInt 64 (a : Int) ||| BitVec.ofInt 64 ((c * 256 ^ k : Nat) : Int)).toNat : Nat) : Int) = _
 rw [key, IntKind.wrap_i64]
 omega
theorem get_any (w : World) (s : List UInt8) (h1 : s ≠ []) (h7 : s.length ≤ 7) : Calls Tryz.prog 79 #[S s] w fun e w' => e = .returned (.tuple #[I (getN s), I 0]) ∧ w' = w := by
 have hse : (s == []) = false := by simpa using h1
 have hse2 : s.isEmpty = false := by simpa using h1
 have hlI : (s.length : Int) ≤ 7 := by omega
 clear h1
 go_enter Tryz.func79, Tryz.ntmps79
 go_wp2_with (fail)
 go_loopw [4, 15] (fun v i wr => ∃ k : Nat, k ≤ s.length ∧ i = I k ∧ v = I (getN (s.take k)) ∧ wr = w) (fun _ i _ => s.length - (intOf i).toNat)
 case atStart => exact ⟨0, by omega, rfl, rfl, rfl⟩
 case round =>
  obtain ⟨k, hk, rfl, rfl, hw⟩ := hrel
  replace hw := hw.symm
  subst hw
  by_cases hlt : k < s.length
  ·have hltI : (k : Int) < s.length := by omega
   have hv : bits .or .i64 (getN (s.take k) : Int) (wrap64 (((byteAt s k).toNat : Int) * 2 ^ (8 * k))) = (getN (s.take (k + 1)) : Int) := by
    rw [or_next _ _ _ (by have := getN_lt (s.take k); rwa [List.length_take, Nat.min_eq_left hk] at this) (byteAt s k).toNat_lt (by omega)]
    rw [List.take_succ_eq_append_getElem hlt, getN_snoc, byteAt_eq s k hlt, List.length_take, Nat.min_eq_left hk]
   have HV := Lib.hid hv
   clear hv
   go_wp2_with (fail)
   go_roundw
   case rel => exact ⟨k + 1, by omega, by go_num, by rw [HV.out], trivial⟩
   case measure => simp [intOf]; omega
  ·have hke : k = s.length := by omega
   subst hke
   rw [List.take_length]
   go_wp2_with (fail)
   go_ret2
   exact ⟨rfl, rfl⟩
abbrev Sg := Nat × Nat
def segCells (l : List Sg) : List Value := l.flatMap fun s => [I s.1, I s.2]
theorem segCells_len (l : List Sg) : (segCells l).length = l.length * 2 := by
 induction l with
 | nil => rfl
 | cons s l ih => simp only [segCells, List.flatMap_cons, List.length_append, List.length_cons, List.length_nil] at ih ⊢; omega
structure LgAt (w : World) (lb pb fb bb cb fs n : Nat) (v : Value) (segs : List Sg) (f : Fl) (dead : Bool) : Prop where
 blk : w.heap[lb]? = some (.cells #[Ptr pb, v, .bool dead] 170 (0, 0))
 own : w.ownsRow (lb + 1) 207 2 v segs.length (segCells segs)
 pt : PtAt w pb fb bb cb fs n f
 n1 : pb < lb
 n2 : fb < lb
 n3 : bb < lb
 n4 : cb < lb
def LgT (lb fb bb cb : Nat) (v : Value) : List Nat := [lb, fb, bb, cb] ++ v.ownBlock.toList
def Fresh (w : World) (v v' : Value) : Prop := ∀ q, v'.ownBlock = some q → v.ownBlock = some q ∨ w.heap.size ≤ q
def LgPost (r : Value) (lb pb fb bb cb fs n : Nat) (v : Value) (w : World) (segs : List Sg) (f : Fl) (dead : Bool) (e : Ending) (w' : World) : Prop :=
 e = .returned r ∧ ∃ v', Fresh w v v' ∧ LgAt w' lb pb fb bb cb fs n v' segs f dead ∧ Kept (LgT lb fb bb cb v) w w'
section
variable {w : World} {lb pb fb bb cb fs n : Nat} {v : Value} {segs : List Sg} {f : Fl} {dead : Bool}
theorem LgAt.lt (h : LgAt w lb pb fb bb cb fs n v segs f dead) : lb < w.heap.size := lt_of_block h.blk
theorem LgAt.cells (h : LgAt w lb pb fb bb cb fs n v segs f dead) : w.cell? ⟨lb, 0, none⟩ = some (Ptr pb) ∧ w.cell? ⟨lb, 1, none⟩ = some v ∧ w.cell? ⟨lb, 2, none⟩ = some (.bool dead) := by
 refine ⟨?_, ?_, ?_⟩ <;> (rw [cell_at h.blk]; rfl)
theorem LgAt.free (h : LgAt w lb pb fb bb cb fs n v segs f dead) (i : Nat) : w.frozen? ⟨lb, i, none⟩ = false := free_at h.blk i
theorem own_kept {w' : World} {B : Nat} {t : TypeId} {size : Nat} {v : Value} {n : Nat} {xs : List Value} {T : List Nat} (h : w.ownsRow B t size v n xs) (k : Kept T w w') (hn : ∀ q, v.ownBlock = some q → q ∉ T) : w'.ownsRow B t size v n xs := by
 refine ⟨h.1, ?_⟩
 rcases h.2 with h0 | ⟨g, cap, cur, e, hb, hg, hr⟩
 ·exact .inl h0
 ·exact .inr ⟨g, cap, cur, e, hb, k.at hg (hn g (by rw [e]; rfl)), hr⟩
theorem own_lt {B : Nat} {t : TypeId} {size : Nat} {v : Value} {n : Nat} {xs : List Value} (h : w.ownsRow B t size v n xs) : ∀ q, v.ownBlock = some q → B ≤ q ∧ q < w.heap.size := by
 intro q hq
 rcases h.2 with ⟨rfl, _⟩ | ⟨g, cap, cur, rfl, hb, hg, _⟩
 ·cases hq
 ·have : g = q := by simpa [Value.ownBlock] using hq
  subst this
  exact ⟨hb, lt_of_block hg⟩
theorem LgAt.kept {w' : World} {T : List Nat} (h : LgAt w lb pb fb bb cb fs n v segs f dead) (k : Kept T w w') (h0 : lb ∉ T) (h1 : pb ∉ T) (h2 : fb ∉ T) (h3 : bb ∉ T) (h4 : cb ∉ T) (h5 : ∀ q, v.ownBlock = some q → q ∉ T) : LgAt w' lb pb fb bb cb fs n v segs f dead :=
 ⟨k.at h.blk h0, own_kept h.own k h5, h.pt.kept k h1 h2 h3 h4, h.n1, h.n2, h.n3, h.n4⟩
theorem LgAt.same {w' : World} (h : LgAt w lb pb fb bb cb fs n v segs f dead) (k : Kept [] w w') : LgAt w' lb pb fb bb cb fs n v segs f dead := h.kept k (by simp) (by simp) (by simp) (by simp) (by simp) (by simp)
theorem LgAt.drew (h : LgAt w lb pb fb bb cb fs n v segs f dead) : LgAt w.drew lb pb fb bb cb fs n v segs f dead := h.same ((Kept.refl _ _).drew)
theorem LgAt.turned {w' : World} {f' : Fl} (h : LgAt w lb pb fb bb cb fs n v segs f dead) (k : Kept [fb, bb, cb] w w') (hp : PtAt w' pb fb bb cb fs n f') : LgAt w' lb pb fb bb cb fs n v segs f' dead :=
 ⟨k.at h.blk (by have := h.n2; have := h.n3; have := h.n4; simp; omega), own_kept h.own k (fun q hq hm => by
  have := (own_lt h.own q hq).1
  have := h.n2
  have := h.n3
  have := h.n4
  simp at hm; omega), hp, h.n1, h.n2, h.n3, h.n4⟩
theorem LgAt.setDead (h : LgAt w lb pb fb bb cb fs n v segs f dead) (d : Bool) : LgAt (w.setCell ⟨lb, 2, none⟩ (.bool d)) lb pb fb bb cb fs n v segs f d := by
 have k : Kept [lb] w (w.setCell ⟨lb, 2, none⟩ (.bool d)) := (Kept.refl _ _).setCell (.inl (by simp)) _
 refine ⟨heap_setCell_at h.blk 2 _, own_kept h.own k (fun q hq hm => ?_), h.pt.kept k (by have := h.n1; simp; omega) (by have := h.n2; simp; omega) (by have := h.n3; simp; omega) (by have := h.n4; simp; omega), h.n1, h.n2, h.n3, h.n4⟩
 have := (own_lt h.own q hq).1
 simp at hm; omega
theorem LgT.sub3 {w' : World} (k : Kept [fb, bb, cb] w w') : Kept (LgT lb fb bb cb v) w w' := k.mono (by intro x hx; simp [LgT] at hx ⊢; omega)
theorem LgT.sub1 {w' : World} (k : Kept [lb] w w') : Kept (LgT lb fb bb cb v) w w' := k.mono (by intro x hx; simp [LgT] at hx ⊢; omega)
theorem LgT.sub0 {w' : World} (k : Kept [] w w') : Kept (LgT lb fb bb cb v) w w' := k.mono (by simp)
theorem Fresh.refl (w : World) (v : Value) : Fresh w v v := fun _ h => .inl h
end
theorem lblocks_any (w : World) (lb pb fb bb cb fs n : Nat) (v : Value) (segs : List Sg) (f : Fl) (dead : Bool) (h : LgAt w lb pb fb bb cb fs n v segs f dead) : Calls Tryz.prog 102 #[Ptr lb] w fun e w' => e = .returned (I n) ∧ w' = w := by
 obtain ⟨c0, c1, c2⟩ := h.cells
 have HS := Lib.hid (size_any w pb fb bb cb fs n f h.pt)
 have hb := h.pt.bound.1
 have hd : ((n * 512 : Nat) : Int) / 512 = n := by omega
 have hb2 : ((n * 512 : Nat) : Int) ≤ 131072 := by omega
 have hb3 : (0 : Int) ≤ ((n * 512 : Nat) : Int) := by omega
 obtain ⟨N, hN⟩ : ∃ N : Nat, n * 512 = N := ⟨_, rfl⟩
 rw [hN] at HS hd hb2 hb3
 clear h hb hN
 go_enter Tryz.func102, Tryz.ntmps102
 go_wp2_with (fail)
 refine HS.out.mono ?_
 rintro e w1 ⟨rfl, rfl⟩
 go_wp2_with (fail)
 go_ret
 exact ⟨rfl, rfl⟩
theorem ltold_any (w : World) (lb pb fb bb cb fs n : Nat) (v : Value) (segs : List Sg) (f : Fl) (dead : Bool) (h : LgAt w lb pb fb bb cb fs n v segs f dead) (k : Int) :
  Calls Tryz.prog 131 #[Ptr lb, I k] w fun e w' => e = .returned (I k) ∧ LgAt w' lb pb fb bb cb fs n v segs f (dead || k == 2) ∧ Kept [lb] w w' := by
 obtain ⟨c0, c1, c2⟩ := h.cells
 have hf := h.free
 have H := Lib.hid h
 clear h
 go_enter Tryz.func131, Tryz.ntmps131
 cases dead with
 | true =>
  go_wp2_with (fail)
  go_ret
  exact ⟨rfl, H.out.setDead true, (Kept.refl _ _).setCell (.inl (by simp)) _⟩
 | false =>
  go_wp2_with (fail)
  go_ret
  exact ⟨rfl, H.out.setDead (k == 2), (Kept.refl _ _).setCell (.inl (by simp)) _⟩
def blockOf (bs : List UInt8) (k : Nat) : List UInt8 := (bs.drop (512 * k)).take 512
theorem lclean_any (w : World) (lb pb fb bb cb fs n : Nat) (v : Value) (segs : List Sg) (f : Fl) (h : LgAt w lb pb fb bb cb fs n v segs f false) (hd : f.dead = false) (k : Nat) (hk : k < n) (hc : allB (blockOf f.bs (fs + k)) = true) :
  Calls Tryz.prog 103 #[Ptr lb, I k] w fun e w' => e = .returned (I 0) ∧ LgAt w' lb pb fb bb cb fs n v segs f false ∧ Kept [lb] w w' := by
 obtain ⟨c0, c1, c2⟩ := h.cells
 have hb := h.pt.bound.1
 have hc1 := clean_any w pb fb bb cb fs n f h.pt hd (k * 512) 512 (by omega) (by omega)
 rw [show ((512 : Nat) : Int) = 512 from rfl] at hc1
 have HC := Lib.hid hc1
 have he : (f.bs.drop (512 * fs + k * 512)).take 512 = blockOf f.bs (fs + k) := by unfold blockOf; congr 2; omega
 rw [he, hc] at HC
 have HT := Lib.hid (ltold_any w lb pb fb bb cb fs n v segs f false h 0)
 have hkI : (k : Int) ≤ 256 := by omega
 have hkm : (k : Int) * 512 = (k * 512 : Nat) := by omega
 have hkb : ((k * 512 : Nat) : Int) ≤ 131072 := by omega
 have hkb0 : (0 : Int) ≤ ((k * 512 : Nat) : Int) := by omega
 obtain ⟨N, hN⟩ : ∃ N : Nat, k * 512 = N := ⟨_, rfl⟩
 rw [hN] at HC hkm hkb hkb0
 clear h hd hk hc he hb hc1 hN
 go_enter Tryz.func103, Tryz.ntmps103
 go_wp2_with (fail)
 refine HC.out.mono ?_
 rintro e w1 ⟨rfl, rfl⟩
 go_wp2_with (fail)
 refine HT.out.mono ?_
 rintro e w2 ⟨rfl, h2, k2⟩
 go_wp2_with (fail)
 go_ret
 exact ⟨rfl, h2, k2⟩
theorem one_conv (w : World) (c : UInt8) : (convert 64 9 (.slice (some ⟨w.heap.size, 0, none⟩) 1 1)).run Tryz.prog (w.alloc (.cells #[B c] 5)) = .ok (S [c]) (w.alloc (.cells #[B c] 5)) := by
 have h : Row (w.alloc (.cells #[B c] 5)) w.heap.size [c] := heap_new w _
 exact conv_row h 1
theorem begin_any (w : World) (k : Nat) (hk : k < 256 ^ 6) : Calls Tryz.prog 134 #[I k] w fun e w' => e = .returned (S (83 :: putN 6 k)) ∧ Kept [] w w' := by
 have HP := Lib.hid (put_any w k 6 (by omega) (by omega) hk)
 have hl := putN_len 6 k
 obtain ⟨L, hL⟩ : ∃ L, putN 6 k = L := ⟨_, rfl⟩
 rw [hL] at HP hl ⊢
 clear hL
 go_enter Tryz.func134, Tryz.ntmps134
 go_wp2_with (fail)
 refine HP.out.mono ?_
 rintro e w1 ⟨rfl, k1⟩
 have K1 := Lib.hid k1
 clear k1
 have hcv : (convert 64 9 (.slice (some ⟨w1.heap.size, 0, none⟩) 1 1)).run Tryz.prog (w1.alloc (.cells #[.int .u8 83] 5)) = .ok (S [83]) (w1.alloc (.cells #[.int .u8 83] 5)) := one_conv w1 83
 go_wp2_with (fail)
 go_ret
 exact ⟨rfl, K1.out.alloc _⟩
def fullB : List UInt8 := List.replicate 512 255
theorem blockOf_len {bs : List UInt8} {k : Nat} (h : 512 * k + 512 ≤ bs.length) : (blockOf bs k).length = 512 := by
 unfold blockOf; simp; omega
theorem blockOf_at {bs : List UInt8} {k i : Nat} (h : 512 * k + 512 ≤ bs.length) (hi : i < 512) : (blockOf bs k)[i]'(by rw [blockOf_len h]; exact hi) = bs[512 * k + i]'(by omega) := by
 unfold blockOf
 rw [List.getElem_take, List.getElem_drop]
theorem prog_same {bs s : List UInt8} {k o : Nat} (h : 512 * k + 512 ≤ bs.length) : blockOf (progL bs (512 * k + o) s) k = progL (blockOf bs k) o s := by
 apply List.ext_getElem
 ·rw [blockOf_len (by unfold progL; rw [onL_len]; exact h)]
  unfold progL; rw [onL_len, blockOf_len h]
 ·intro i h1 h2
  have hi : i < 512 := by rw [blockOf_len (by unfold progL; rw [onL_len]; exact h)] at h1; exact h1
  rw [blockOf_at (by unfold progL; rw [onL_len]; exact h) hi]
  simp only [progL, onL, List.getElem_mapIdx, blockOf_at h hi]
  by_cases hc : o ≤ i ∧ i < o + s.length
  ·rw [if_pos hc, if_pos (by omega), show 512 * k + i - (512 * k + o) = i - o by omega]
  ·rw [if_neg hc, if_neg (by omega)]
theorem prog_other {bs s : List UInt8} {k j o : Nat} (hj : 512 * j + 512 ≤ bs.length) (hn : j ≠ k) (ho : o + s.length ≤ 512) : blockOf (progL bs (512 * k + o) s) j = blockOf bs j := by
 apply List.ext_getElem
 ·rw [blockOf_len (by unfold progL; rw [onL_len]; exact hj), blockOf_len hj]
 ·intro i h1 h2
  have hi : i < 512 := by rw [blockOf_len hj] at h2; exact h2
  rw [blockOf_at (by unfold progL; rw [onL_len]; exact hj) hi, blockOf_at hj hi]
  simp only [progL, onL, List.getElem_mapIdx]
  rw [if_neg (by omega)]
theorem erase_same {bs : List UInt8} {k : Nat} (h : 512 * k + 512 ≤ bs.length) : blockOf (eraseL bs k) k = fullB := by
 apply List.ext_getElem
 ·rw [blockOf_len (by unfold eraseL; rw [onL_len]; exact h)]; rfl
 ·intro i h1 h2
  have hi : i < 512 := by rw [blockOf_len (by unfold eraseL; rw [onL_len]; exact h)] at h1; exact h1
  rw [blockOf_at (by unfold eraseL; rw [onL_len]; exact h) hi]
  simp only [eraseL, onL, List.getElem_mapIdx]
  rw [if_pos (by omega)]
  exact (List.getElem_replicate (by simpa using hi)).symm
theorem erase_other {bs : List UInt8} {k j : Nat} (hj : 512 * j + 512 ≤ bs.length) (hn : j ≠ k) : blockOf (eraseL bs k) j = blockOf bs j := by
 apply List.ext_getElem
 ·rw [blockOf_len (by unfold eraseL; rw [onL_len]; exact hj), blockOf_len hj]
 ·intro i h1 h2
  have hi : i < 512 := by rw [blockOf_len hj] at h2; exact h2
  rw [blockOf_at (by unfold eraseL; rw [onL_len]; exact hj) hi, blockOf_at hj hi]
  simp only [eraseL, onL, List.getElem_mapIdx]
  rw [if_neg (by omega)]
theorem prog_fill (P s : List UInt8) (m : Nat) (h : s.length ≤ m) : progL (P ++ List.replicate m 255) P.length s = P ++ (s ++ List.replicate (m - s.length) 255) := by
 apply List.ext_getElem
 ·unfold progL; rw [onL_len]; simp; omega
 ·intro i h1 h2
  simp only [progL, onL, List.getElem_mapIdx]
  by_cases c1 : i < P.length
  ·rw [if_neg (by omega), List.getElem_append_left c1, List.getElem_append_left c1]
  ·by_cases c2 : i < P.length + s.length
   ·rw [if_pos (by omega), List.getElem_append_right (by omega), List.getElem_replicate, and_all, byteAt_eq s _ (by omega), List.getElem_append_right (by omega), List.getElem_append_left (by omega)]
   ·rw [if_neg (by omega), List.getElem_append_right (by omega), List.getElem_replicate, List.getElem_append_right (by omega), List.getElem_append_right (by omega), List.getElem_replicate]
theorem prog_one (X Y : List UInt8) (c : UInt8) : progL (X ++ 255 :: Y) X.length [c] = X ++ c :: Y := by
 apply List.ext_getElem
 ·unfold progL; rw [onL_len]; simp
 ·intro i h1 h2
  simp only [progL, onL, List.getElem_mapIdx]
  by_cases c1 : i < X.length
  ·rw [if_neg (by omega), List.getElem_append_left c1, List.getElem_append_left c1]
  ·by_cases c2 : i = X.length
   ·subst c2
    rw [if_pos (by simp), List.getElem_append_right (by omega), List.getElem_append_right (by omega)]
    simp [byteAt, and_all]
   ·rw [if_neg (by simp; omega), List.getElem_append_right (by omega), List.getElem_append_right (by omega)]
    rw [List.getElem_cons, dif_neg (by omega), List.getElem_cons, dif_neg (by omega)]
def headL (num : Nat) : List UInt8 := 83 :: putN 6 num ++ 0 :: List.replicate 56 255
theorem headL_len (num : Nat) : (headL num).length = 64 := by simp [headL, putN_len]
theorem allB_full : allB fullB = true := by unfold allB fullB; simp
theorem made_block (num : Nat) : progL (progL fullB 0 (83 :: putN 6 num)) 7 [0] = headL num ++ List.replicate 448 255 := by
 have h1 := prog_fill [] (83 :: putN 6 num) 512 (by simp [putN_len])
 simp only [List.nil_append, List.length_nil] at h1
 unfold fullB
 rw [h1]
 have hl : (83 :: putN 6 num).length = 7 := by simp [putN_len]
 rw [hl, show 512 - 7 = 504 + 1 by omega, List.replicate_succ]
 have h2 := prog_one (83 :: putN 6 num) (List.replicate 504 255) 0
 rw [hl] at h2
 rw [h2]
 unfold headL
 rw [List.append_assoc, List.cons_append, show (504 : Nat) = 56 + 448 by omega, ← List.replicate_append_replicate]
 simp
theorem seg_info : (Tryz.prog.info? 207).map (fun i => (i.zero, i.size, i.bytes)) = some (some (.agg #[.int .i64 0, .int .i64 0]), 2, 16) := by kernel_rfl
theorem LgAt.setSegs {w : World} {lb pb fb bb cb fs n : Nat} {v v' : Value} {segs segs' : List Sg} {f : Fl} {dead : Bool} (h : LgAt w lb pb fb bb cb fs n v segs f dead) (o : w.ownsRow (lb + 1) 207 2 v' segs'.length (segCells segs')) : LgAt (w.setCell ⟨lb, 1, none⟩ v') lb pb fb bb cb fs n v' segs' f dead := by
 have k : Kept [lb] w (w.setCell ⟨lb, 1, none⟩ v') := (Kept.refl _ _).setCell (.inl (by simp)) _
 refine ⟨heap_setCell_at h.blk 1 _, own_kept o k (fun q hq hm => ?_), h.pt.kept k (by have := h.n1; simp; omega) (by have := h.n2; simp; omega) (by have := h.n3; simp; omega) (by have := h.n4; simp; omega), h.n1, h.n2, h.n3, h.n4⟩
 have := (own_lt o q hq).1
 simp at hm; omega
theorem kept_grown {w w' : World} {row : Option Nat} (g : w.grownBy w' row) : Kept row.toList w w' :=
 ⟨g.os, g.tape, g.output, g.size, fun k hk hn => g.block k hk (fun e => hn (by rw [← e]; simp))⟩
theorem own_form {w : World} {B : Nat} {t : TypeId} {size : Nat} {v : Value} {n : Nat} {xs : List Value} (h : w.ownsRow B t size v n xs) : ∃ p c, v = .slice p n c := by
 rcases h.2 with ⟨rfl, h0⟩ | ⟨g, cap, cur, rfl, _⟩
 ·exact ⟨none, 0, by rw [h0]⟩
 ·exact ⟨_, _, rfl⟩
def madeF (f : Fl) (fs k num : Nat) : Fl := { (f.stepped).stepped with bs := progL (progL f.bs (512 * fs + k * 512) (83 :: putN 6 num)) (512 * fs + (k * 512 + 7)) [0] }
theorem makes_any (w : World) (lb pb fb bb cb fs n : Nat) (v : Value) (segs : List Sg) (f : Fl) (h : LgAt w lb pb fb bb cb fs n v segs f false) (hd : f.dead = false) (ha : f.armed = 0) (k num : Nat) (hk : k < n) (hc : blockOf f.bs (fs + k) = fullB) (hnum : num < 256 ^ 6) (hs : segs.length ≤ 1000) :
    Calls Tryz.prog 104 #[Ptr lb, I k, I num] w (LgPost (I 0) lb pb fb bb cb fs n v w (segs ++ [(k, num)]) (madeF f fs k num) false) := by
  have HC := Lib.hid (lclean_any w lb pb fb bb cb fs n v segs f h hd k hk (by rw [hc]; exact allB_full))
  have HBG := Lib.hid (fun W => begin_any W num hnum)
  have hpl := putN_len 6 num
  have HW1 := Lib.hid (fun W (p : PtAt W pb fb bb cb fs n f) => pwrite_any W pb fb bb cb fs n f p hd ha (k * 512) (83 :: putN 6 num) (by simp) (by simp [putN_len]; omega) (by simp [putN_len]; omega))
  obtain ⟨f1, hf1⟩ : ∃ f1, ({ f.stepped with bs := progL f.bs (512 * fs + k * 512) (83 :: putN 6 num) } : Fl) = f1 := ⟨_, rfl⟩
  have hf1f : f1.dead = false ∧ f1.armed = 0 ∧ f1.bs = progL f.bs (512 * fs + k * 512) (83 :: putN 6 num) ∧ f1.cs = f.cs := by rw [← hf1]; exact ⟨hd, ha, rfl, rfl⟩
  have HW2 := Lib.hid (fun W (p : PtAt W pb fb bb cb fs n f1) => pwrite_any W pb fb bb cb fs n f1 p hf1f.1 hf1f.2.1 (k * 512 + 7) [0] (by simp) (by simp; omega) (by simp; omega))
  have hmf : ({ f1.stepped with bs := progL f1.bs (512 * fs + (k * 512 + 7)) [0] } : Fl) = madeF f fs k num := by rw [← hf1]; rfl
  rw [hmf] at HW2
  rw [hf1] at HW1
  have hkb := h.pt.bound.1
  have hkI : (k : Int) ≤ 256 := by omega
  obtain ⟨N, hN⟩ : ∃ N : Nat, k * 512 = N := ⟨_, rfl⟩
  obtain ⟨M, hM⟩ : ∃ M : Nat, N + 7 = M := ⟨_, rfl⟩
  have hN1 : (k : Int) * 512 = N := by omega
  have hN2 : (N : Int) ≤ 131072 := by omega
  have hM1 : (N : Int) + 7 = M := by omega
  rw [hN] at HW1
  rw [hN, hM] at HW2
  obtain ⟨i0, hi, hz0, hz1, hz2⟩ := info_parts seg_info
  have HI := Lib.hid (And.intro hi (And.intro hz0 (And.intro hz1 hz2)))
  obtain ⟨bg, hbg⟩ : ∃ bg, 83 :: putN 6 num = bg := ⟨_, rfl⟩
  rw [hbg] at HBG HW1
  have HS := Lib.hid hs
  clear h hd ha hk hc hnum hbg hpl hf1 hf1f hmf hi hz0 hz1 hz2 hkb hs hN hM
  go_enter Tryz.func104, Tryz.ntmps104
  go_wp2_with (fail)
  refine HC.out.mono ?_
  rintro e w1 ⟨rfl, h1, k1⟩
  have H1 := Lib.hid (And.intro h1 k1)
  obtain ⟨c0, c1, c2⟩ := h1.cells
  clear h1 k1
  have hm1 : IntKind.i64.wrap ((k : Int) * 512) = N := by rw [IntKind.wrap_i64]; omega
  have hm2 : IntKind.i64.wrap (N : Int) = N := by rw [IntKind.wrap_i64]; omega
  go_upto_region 4 with (fail)
  go_cut [8] from 16 to 26 (fun v8 wx => v8 = I 0 ∧ LgAt wx lb pb fb bb cb fs n v segs f1 false ∧ Kept (LgT lb fb bb cb v) w1 wx)
  case first =>
    go_region_with (first
      | (go_at_call 134; (with_reducible refine (HBG.out _).mono ?_); rintro e w2 ⟨rfl, k2⟩; have e0 := (H1.out.1.same ((Kept.refl [] w1).drew.trans' k2)).cells.1)
      | (go_at_call 133; (with_reducible refine (HW1.out _ (H1.out.1.same ((Kept.refl [] w1).drew.trans' k2)).pt).mono ?_); rintro e w3 ⟨rfl, h3, k3⟩)
      | (go_at_call 131; (with_reducible refine (ltold_any _ lb pb fb bb cb fs n v segs f1 false ((H1.out.1.same ((Kept.refl [] w1).drew.trans' k2)).turned k3 h3) 0).mono ?_); rintro e w4 ⟨rfl, h4, k4⟩))
    all_goals
      go_wp2
      go_meet
      exact ⟨rfl, h4, (LgT.sub0 ((Kept.refl [] w1).drew.trans' k2)).trans' ((LgT.sub3 k3).trans' (LgT.sub1 k4))⟩
  case rest =>
  obtain ⟨rfl, h2, k2⟩ := hcut
  have H2 := Lib.hid (And.intro h2 (((LgT.sub1 H1.out.2 : Kept (LgT lb fb bb cb v) w w1)).trans' k2))
  clear H1 c0 c1 c2
  obtain ⟨c0, c1, c2⟩ := h2.cells
  clear h2 k2
  go_wp2_with (fail)
  refine (HW2.out _ H2.out.1.pt).mono ?_
  rintro e w3 ⟨rfl, h3, k3⟩
  have H3 := Lib.hid (And.intro (H2.out.1.turned k3 h3) (H2.out.2.trans' (LgT.sub3 k3)))
  clear h3 k3 H2 c0 c1 c2
  go_wp2_with (fail)
  refine (ltold_any _ lb pb fb bb cb fs n v segs _ false H3.out.1 0).mono ?_
  rintro e w4 ⟨rfl, h4, k4⟩
  have k5 := H3.out.2.trans' (LgT.sub1 k4)
  obtain ⟨p, c, rfl⟩ := own_form h4.own
  obtain ⟨c0, c1, c2⟩ := h4.cells
  have H4 := Lib.hid (And.intro h4 k5)
  clear h4 k4 k5 H3
  obtain ⟨hi, hz0, hz1, hz2⟩ := HI.out
  go_wp2_with (first
    | (at_builtin
       refine wpList_append_lies _ rfl (.tmp 47) (.tmp 51) _ rfl (lb + 1) 207 i0 (.agg #[.int .i64 0, .int .i64 0]) 2 16 Tryz.underlying168 hi hz0 hz1 hz2 rfl (by decide) (.slice p segs.length c) segs.length (segCells segs) rfl (own_kept H4.out.1.own ((Kept.refl [] w4).alloc _) (by simp)) ⟨w4.heap.size, 0, none⟩ 1 1 [I k, I num] rfl rfl (World.news_of_block (heap_new w4 _)) (by intro u hu; simp at hu; rcases hu with rfl | rfl <;> rfl) (by omega) (by have := HS.out; unfold maxLen; omega) (by have := HS.out; omega) (by rw [World.size_alloc]; have := H4.out.1.lt; omega) _ rfl ?_
       intro g cap wa own1 gr1 hat hlt
       have kg := kept_grown gr1
       have kw : Kept (LgT lb fb bb cb (.slice p segs.length c)) w4 wa := (LgT.sub0 ((Kept.refl [] w4).alloc _)).trans' (kg.mono (by intro x hx; simp [LgT] at hx ⊢; simp [hx]))
       have hblk : wa.heap[lb]? = some (.cells #[Ptr pb, .slice p segs.length c, .bool false] 170 (0, 0)) := kg.at (((Kept.refl [] w4).alloc _).at H4.out.1.blk (by simp)) (by intro hm; have := (own_lt H4.out.1.own lb (by simpa using hm)).1; omega)
       have hp : PtAt wa pb fb bb cb fs n (madeF f fs k num) := (H4.out.1.pt.same ((Kept.refl [] w4).alloc _)).kept kg (by intro hm; have := (own_lt H4.out.1.own pb (by simpa using hm)).1; have := H4.out.1.n1; omega) (by intro hm; have := (own_lt H4.out.1.own fb (by simpa using hm)).1; have := H4.out.1.n2; omega) (by intro hm; have := (own_lt H4.out.1.own bb (by simpa using hm)).1; have := H4.out.1.n3; omega) (by intro hm; have := (own_lt H4.out.1.own cb (by simpa using hm)).1; have := H4.out.1.n4; omega)
       have d1 : wa.cell? ⟨lb, 1, none⟩ = some (.slice p segs.length c) := by rw [cell_at hblk]; rfl
       have df : ∀ i, wa.frozen? ⟨lb, i, none⟩ = false := free_at hblk
       have HA := Lib.hid (And.intro own1 (And.intro kw (And.intro hblk (And.intro hp hat))))
       clear own1 gr1 hat hlt kg kw hblk hp c1))
  go_ret
  obtain ⟨own1, kw, hblk, hp, hat⟩ := HA.out
  have hsc : segCells segs ++ [I k, I num] = segCells (segs ++ [(k, num)]) := by simp [segCells]
  rw [hsc] at own1
  have kfin : Kept [lb] wa (wa.setCell ⟨lb, 1, none⟩ (.slice (some ⟨g, 0, none⟩) (segs.length + 1) cap)) := (Kept.refl _ _).setCell (.inl (by simp)) _
  refine ⟨rfl, .slice (some ⟨g, 0, none⟩) (segs.length + 1) cap, ?_, ⟨heap_setCell_at hblk 1 _, by rw [List.length_append]; exact own_kept own1 kfin (fun q hq hm => by have := (own_lt own1 q hq).1; simp at hm; omega), hp.kept kfin (by have := H4.out.1.n1; simp; omega) (by have := H4.out.1.n2; simp; omega) (by have := H4.out.1.n3; simp; omega) (by have := H4.out.1.n4; simp; omega), H4.out.1.n1, H4.out.1.n2, H4.out.1.n3, H4.out.1.n4⟩, ?_⟩
  · intro q hq
    have hgq : g = q := by simpa [Value.ownBlock] using hq
    subst hgq
    rcases hat with hat | hat
    · exact .inl hat
    · right
      rw [hat, World.size_alloc]
      have := H4.out.2.size
      omega
  · exact H4.out.2.trans' (kw.trans' (LgT.sub1 kfin))
end Go.Proofs.YteplbljjlbdhaaaGreatDoor
