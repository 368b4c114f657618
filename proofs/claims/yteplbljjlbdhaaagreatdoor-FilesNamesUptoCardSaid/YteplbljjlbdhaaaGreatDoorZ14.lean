/- Walks and lemmas on the program of this seat, used by its statements; each theorem bears its own conditions. -/
import Derived.Test.YteplbljjlbdhaaaGreatDoorZ4
namespace Go.Proofs.YteplbljjlbdhaaaGreatDoor
open Go.RowKit
set_option linter.unusedVariables false
set_option linter.unusedSimpArgs false
set_option linter.unusedSectionVars false
set_option maxHeartbeats 16000000
set_option maxRecDepth 100000
def Fl.tick (f : Fl) : Fl := { f with st := wrap64 (f.st + 1), armed := if f.armed = 0 then 0 else f.armed - 1, dead := if f.armed = 0 then f.dead else decide (f.armed = 1) }
def ArmOK (f : Fl) : Prop := f.dead = false ∧ 0 ≤ f.armed ∧ f.armed ≤ 9223372036854775807 ∧ 0 ≤ f.keep
theorem tick_live {f : Fl} (h : ArmOK f) (h1 : f.armed ≠ 1) : ArmOK f.tick := by
 obtain ⟨a, b, c, d⟩ := h
 unfold Fl.tick ArmOK
 dsimp only
 by_cases h0 : f.armed = 0
 ·rw [if_pos h0, if_pos h0]; exact ⟨a, by omega, by omega, d⟩
 ·rw [if_neg h0, if_neg h0]; exact ⟨decide_eq_false h1, by omega, by omega, d⟩
theorem tick_dead {f : Fl} (h1 : f.armed = 1) : f.tick.dead = true ∧ f.tick.armed = 0 := by
 unfold Fl.tick
 dsimp only
 rw [h1]
 exact ⟨rfl, rfl⟩
theorem step_arm (w : World) (fb bb cb : Nat) (f : Fl) (h : FlAt w fb bb cb f) (ha : ArmOK f) : Calls Tryz.prog 191 #[Ptr fb] w (FlPost (.bool (decide (f.armed = 1))) fb bb cb w f.tick) := by
 obtain ⟨hd, a0, a1, a2⟩ := ha
 obtain ⟨c0, c1, c2, c3, c4, c5, c6⟩ := h.cells
 have hf := h.free
 rw [hd] at c6
 have H := Lib.hid (And.intro h hd)
 by_cases h0 : f.armed = 0
 ·have HT : Hid (f.tick = { f with st := wrap64 (f.st + 1) } ∧ decide (f.armed = 1) = false) := Lib.hid ⟨by unfold Fl.tick; rw [if_pos h0, if_pos h0, ← h0], by rw [h0]; rfl⟩
  rw [h0] at c3
  clear h hd a0 a1 a2 h0 c0 c1 c4 c5
  go_enter Tryz.func191, Tryz.ntmps191
  go_wp2_with (fail)
  go_ret
  exact ⟨by rw [HT.out.2]; rfl, by rw [HT.out.1]; exact H.out.1.set2 _, (Kept.refl _ _).setCell (.inl (by simp)) _⟩
 ·obtain ⟨A, hA⟩ : ∃ A, f.armed = A := ⟨_, rfl⟩
  have HT : Hid (f.tick = { f with st := wrap64 (f.st + 1), armed := A - 1, dead := decide (A = 1) }) := Lib.hid (by unfold Fl.tick; rw [if_neg h0, if_neg h0, hA])
  rw [hA] at c3 a0 a1 h0 ⊢
  have h0b : (A == 0) = false := by simpa using h0
  have hw1 : IntKind.i64.wrap (A - 1) = A - 1 := by rw [IntKind.wrap_i64]; omega
  by_cases h1 : A = 1
  ·subst h1
   clear h hd a0 a1 a2 c0 c1 c4 c5 hA
   go_enter Tryz.func191, Tryz.ntmps191
   go_wp2_with (fail)
   go_ret
   refine ⟨rfl, ?_, ((((Kept.refl _ _).setCell (.inl (by simp)) _).setCell (.inl (by simp)) _).setCell (.inl (by simp)) _)⟩
   rw [HT.out]
   exact ((H.out.1.set2 _).set3 _).set6 _
  ·have h1b : (A - 1 == 0) = false := by simp; omega
   have h1c : ¬ A - 1 = 0 := by omega
   have hdA : decide (A = 1) = false := decide_eq_false h1
   rw [hdA] at HT ⊢
   clear h hd a2 c0 c1 c4 c5 hA
   go_enter Tryz.func191, Tryz.ntmps191
   go_wp2_with (fail)
   go_ret
   refine ⟨rfl, ?_, ((((Kept.refl _ _).setCell (.inl (by simp)) _).setCell (.inl (by simp)) _).setCell (.inl (by simp)) _)⟩
   rw [HT.out]
   exact ((H.out.1.set2 _).set3 _).set6 _
theorem prog_arm (w : World) (fb bb cb : Nat) (f : Fl) (h : FlAt w fb bb cb f) (ha : ArmOK f) (h1 : f.armed ≠ 1) (a : Nat) (s : List UInt8) (hs : s ≠ []) (hn : a + s.length ≤ f.bs.length) (hp : a / 64 = (a + s.length - 1) / 64) :
  Calls Tryz.prog 162 #[Ptr fb, I a, S s] w (FlPost (I 0) fb bb cb w { f.tick with bs := progL f.bs a s }) := by
 have HB := Lib.hid (within_any w fb bb cb f h a s.length)
 have hw : withinF f a s.length = true := decide_eq_true ⟨by omega, by omega, by omega, by omega⟩
 rw [hw] at HB
 have HST := Lib.hid (step_arm w fb bb cb f h ha)
 rw [show decide (f.armed = 1) = false from decide_eq_false h1] at HST
 have hd := ha.1
 obtain ⟨c0, c1, c2, c3, c4, c5, c6⟩ := h.cells
 rw [hd] at c6
 have hl := h.size
 have hlI : (f.bs.length : Int) ≤ 131072 := by omega
 have hnI : (a : Int) + s.length ≤ f.bs.length := by omega
 have hse : (s == []) = false := by simpa using hs
 have hse2 : s.isEmpty = false := by simpa using hs
 have hpos : 1 ≤ s.length := by have := List.length_pos_iff.2 hs; omega
 have hposI : (1 : Int) ≤ s.length := by omega
 have hq : ((a : Int) / 64 != ((a : Int) + s.length - 1) / 64) = false := by simp; omega
 have HP := Lib.hid (And.intro hp hs)
 have HD := Lib.hid hd
 have HN := Lib.hid hn
 clear h hw hd ha hp hs h1
 go_enter Tryz.func162, Tryz.ntmps162
 go_wp2_with (fail)
 refine HB.out.mono ?_
 rintro e w1 ⟨rfl, rfl⟩
 go_wp2_with (fail)
 refine HST.out.mono ?_
 rintro e w2 ⟨rfl, h2, k2⟩
 have H2 := Lib.hid (And.intro h2 k2)
 clear h2 k2 c0 c1 c2 c3 c4 c5 c6
 go_wp2_with (fail)
 go_loopw [39] (fun i wr => ∃ k : Nat, k ≤ s.length ∧ i = I k ∧ FlAt wr fb bb cb { f.tick with bs := onL f.bs a k fun j b => b &&& byteAt s j } ∧ Kept [fb, bb, cb] w1 wr) (fun i _ => s.length - (intOf i).toNat)
 case atStart => exact ⟨0, by omega, rfl, by rw [onL_zero]; exact H2.out.1, H2.out.2⟩
 case round =>
  obtain ⟨k, hk, rfl, h3, k3⟩ := hrel
  obtain ⟨cur, hcur⟩ : ∃ cur, (onL f.bs a k fun j b => b &&& byteAt s j) = cur := ⟨_, rfl⟩
  rw [hcur] at h3
  obtain ⟨c0, c1, c2, c3, c4, c5, c6⟩ := h3.cells
  have hcl : cur.length = f.bs.length := by rw [← hcur, onL_len]
  by_cases hlt : k < s.length
  ·have hltI : (k : Int) < s.length := by omega
   have hcell := h3.row.cell (a + k) (by show a + k < cur.length; omega)
   have hat : byteAt cur (a + k) = byteAt f.bs (a + k) := by rw [← hcur, onL_at _ _ _ _ _ (by omega), if_neg (by omega)]
   have hfree := h3.row.free
   have hnext := onL_succ f.bs a k (fun j b => b &&& byteAt s j) (by omega)
   rw [hcur, ← hat] at hnext
   have H3 := Lib.hid (And.intro h3 (And.intro k3 hnext))
   have HCL := Lib.hid hcl
   simp only at hcell c0
   rw [hcl] at c0
   clear h3 k3 hat hnext hcur hcl
   go_wp2_with (fail)
   go_roundw
   case rel =>
    have q := H3.out.1.put (a + k) (byteAt cur (a + k) &&& byteAt s k)
    have q2 := H3.out.2.1.setCell (.inl (by simp) : (⟨bb, a + k, none⟩ : Addr).block ∈ [fb, bb, cb] ∨ _) (B (byteAt cur (a + k) &&& byteAt s k))
    simp only [B, UInt8.toNat_and] at q q2
    exact ⟨k + 1, by omega, by go_num, by rw [H3.out.2.2]; exact q, q2⟩
   case measure => simp [intOf]; omega
  ·have hke : k = s.length := by omega
   have hdone : ¬ (k : Int) < s.length := by omega
   have hdf : decide ((k : Int) < s.length) = false := decide_eq_false hdone
   have hfin : cur = progL f.bs a s := by rw [← hcur, hke]; rfl
   have H3 := Lib.hid (And.intro h3 (And.intro k3 hfin))
   clear h3 k3 hcur hcl hke hfin c0 c1 c2 c3 c4 c5 c6
   go_wp2_with (fail)
   refine (ftold_any false wr).mono ?_
   rintro e w4 ⟨rfl, rfl⟩
   go_wp2_with (fail)
   go_ret
   exact ⟨rfl, by rw [← H3.out.2.2]; exact H3.out.1, H3.out.2.1⟩
def tornG (keep : Int) (mask : UInt8) (s : List UInt8) (j : Nat) (b : UInt8) : UInt8 := if (j : Int) < keep then b &&& byteAt s j else if (j : Int) = keep then b &&& (byteAt s j ||| mask) else b
def tornP (keep : Int) (mask : UInt8) (bs : List UInt8) (a : Nat) (s : List UInt8) : List UInt8 := onL bs a s.length (tornG keep mask s)
theorem onL_more (bs : List UInt8) (a n m : Nat) (g : Nat → UInt8 → UInt8) (hnm : n ≤ m) (h : ∀ j b, n ≤ j → j < m → g j b = b) : onL bs a n g = onL bs a m g := by
 apply List.ext_getElem
 ·simp [onL]
 ·intro i h1 h2
  simp only [onL, List.getElem_mapIdx]
  by_cases hi : a ≤ i ∧ i < a + n
  ·rw [if_pos hi, if_pos (by omega)]
  ·rw [if_neg hi]
   by_cases hj : a ≤ i ∧ i < a + m
   ·rw [if_pos hj, h _ _ (by omega) (by omega)]
   ·rw [if_neg hj]
theorem tornG_late {keep : Int} {mask : UInt8} {s : List UInt8} {j : Nat} (b : UInt8) (h : keep < j) : tornG keep mask s j b = b := by unfold tornG; rw [if_neg (by omega), if_neg (by omega)]
theorem prog_torn (w : World) (fb bb cb : Nat) (f : Fl) (h : FlAt w fb bb cb f) (ha : ArmOK f) (h1 : f.armed = 1) (a : Nat) (s : List UInt8) (hs : s ≠ []) (hn : a + s.length ≤ f.bs.length) (hp : a / 64 = (a + s.length - 1) / 64) :
  Calls Tryz.prog 162 #[Ptr fb, I a, S s] w (FlPost (I 2) fb bb cb w { f.tick with bs := tornP f.keep f.mask f.bs a s }) := by
 have HB := Lib.hid (within_any w fb bb cb f h a s.length)
 have hw : withinF f a s.length = true := decide_eq_true ⟨by omega, by omega, by omega, by omega⟩
 rw [hw] at HB
 have HST := Lib.hid (step_arm w fb bb cb f h ha)
 rw [show decide (f.armed = 1) = true from decide_eq_true h1] at HST
 have hd := ha.1
 obtain ⟨c0, c1, c2, c3, c4, c5, c6⟩ := h.cells
 rw [hd] at c6
 have hl := h.size
 have hlI : (f.bs.length : Int) ≤ 131072 := by omega
 have hnI : (a : Int) + s.length ≤ f.bs.length := by omega
 have hse : (s == []) = false := by simpa using hs
 have hse2 : s.isEmpty = false := by simpa using hs
 have hpos : 1 ≤ s.length := by have := List.length_pos_iff.2 hs; omega
 have hposI : (1 : Int) ≤ s.length := by omega
 have hq : ((a : Int) / 64 != ((a : Int) + s.length - 1) / 64) = false := by simp; omega
 have HP := Lib.hid (And.intro hp hs)
 have HD := Lib.hid hd
 have HN := Lib.hid hn
 clear h hw hd ha hp hs h1
 go_enter Tryz.func162, Tryz.ntmps162
 go_wp2_with (fail)
 refine HB.out.mono ?_
 rintro e w1 ⟨rfl, rfl⟩
 go_wp2_with (fail)
 refine HST.out.mono ?_
 rintro e w2 ⟨rfl, h2, k2⟩
 have H2 := Lib.hid (And.intro h2 k2)
 clear h2 k2 c0 c1 c2 c3 c4 c5 c6
 go_wp2_with (fail)
 go_loopw [39] (fun i wr => ∃ k : Nat, k ≤ s.length ∧ i = I k ∧ FlAt wr fb bb cb { f.tick with bs := onL f.bs a k (tornG f.keep f.mask s) } ∧ Kept [fb, bb, cb] w1 wr) (fun i _ => s.length - (intOf i).toNat)
 case atStart => exact ⟨0, by omega, rfl, by rw [onL_zero]; exact H2.out.1, H2.out.2⟩
 case round =>
  obtain ⟨k, hk, rfl, h3, k3⟩ := hrel
  obtain ⟨cur, hcur⟩ : ∃ cur, (onL f.bs a k (tornG f.keep f.mask s)) = cur := ⟨_, rfl⟩
  rw [hcur] at h3
  obtain ⟨c0, c1, c2, c3, c4, c5, c6⟩ := h3.cells
  have hcl : cur.length = f.bs.length := by rw [← hcur, onL_len]
  have hkI0 : (0 : Int) ≤ k := by omega
  have c4' : wr.cell? ⟨fb, 4, none⟩ = some (I f.keep) := c4
  have c5' : wr.cell? ⟨fb, 5, none⟩ = some (B f.mask) := c5
  by_cases hlt : k < s.length
  ·have hltI : (k : Int) < s.length := by omega
   have hcell := h3.row.cell (a + k) (by show a + k < cur.length; omega)
   have hat : byteAt cur (a + k) = byteAt f.bs (a + k) := by rw [← hcur, onL_at _ _ _ _ _ (by omega), if_neg (by omega)]
   have hfree := h3.row.free
   have hnext := onL_succ f.bs a k (tornG f.keep f.mask s) (by omega)
   rw [hcur, ← hat] at hnext
   simp only at hcell c0
   rw [hcl] at c0
   obtain ⟨KP, hKP⟩ : ∃ KP, f.keep = KP := ⟨_, rfl⟩
   obtain ⟨MK, hMK⟩ : ∃ MK, f.mask = MK := ⟨_, rfl⟩
   rw [hKP] at c4' hnext
   rw [hMK] at c5' hnext
   have HKM := Lib.hid (And.intro hKP hMK)
   by_cases q1 : (k : Int) < KP
   ·have hg : tornG KP MK s k (byteAt cur (a + k)) = byteAt cur (a + k) &&& byteAt s k := by unfold tornG; rw [if_pos q1]
    rw [hg] at hnext
    have H3 := Lib.hid (And.intro h3 (And.intro k3 hnext))
    have HCL := Lib.hid hcl
    have q1d : decide (KP ≤ (k : Int)) = false := decide_eq_false (by omega)
    clear h3 k3 hat hnext hcur hcl c1 c2 c3 c4 c5 c6 hg hKP hMK
    go_wp2_with (fail)
    go_roundw
    case rel =>
     have q := H3.out.1.put (a + k) (byteAt cur (a + k) &&& byteAt s k)
     have q2 := H3.out.2.1.setCell (.inl (by simp) : (⟨bb, a + k, none⟩ : Addr).block ∈ [fb, bb, cb] ∨ _) (B (byteAt cur (a + k) &&& byteAt s k))
     simp only [B, UInt8.toNat_and] at q q2
     exact ⟨k + 1, by omega, by go_num, by rw [HKM.out.1, HKM.out.2, H3.out.2.2]; exact q, q2⟩
    case measure => simp [intOf]; omega
   ·have q1d : decide (KP ≤ (k : Int)) = true := decide_eq_true (by omega)
    by_cases q2 : KP < (k : Int)
    ·have hfin : cur = tornP f.keep f.mask f.bs a s := by
      rw [← hcur]
      unfold tornP
      exact onL_more f.bs a k s.length _ hk (fun j b hj _ => tornG_late b (by omega))
     have H3 := Lib.hid (And.intro h3 (And.intro k3 hfin))
     clear h3 k3 hat hnext hcur hcl c0 c1 c2 c3 c4 c5 c6 hKP hMK hfin
     go_wp2_with (fail)
     refine (ftold_any true wr).mono ?_
     rintro e w4 ⟨rfl, rfl⟩
     go_wp2_with (fail)
     go_ret
     exact ⟨rfl, by rw [← H3.out.2.2]; exact H3.out.1, H3.out.2.1⟩
    ·have hke : (k : Int) = KP := by omega
     have hg : tornG KP MK s k (byteAt cur (a + k)) = byteAt cur (a + k) &&& (byteAt s k ||| MK) := by unfold tornG; rw [if_neg q1, if_pos hke]
     rw [hg] at hnext
     have q2d : decide (KP < (k : Int)) = false := decide_eq_false q2
     have H3 := Lib.hid (And.intro h3 (And.intro k3 hnext))
     have HCL := Lib.hid hcl
     clear h3 k3 hat hnext hcur hcl c1 c2 c3 c4 c5 c6 hg hKP hMK hke
     go_wp2_with (fail)
     go_roundw
     case rel =>
      have q := H3.out.1.put (a + k) (byteAt cur (a + k) &&& (byteAt s k ||| MK))
      have q2 := H3.out.2.1.setCell (.inl (by simp) : (⟨bb, a + k, none⟩ : Addr).block ∈ [fb, bb, cb] ∨ _) (B (byteAt cur (a + k) &&& (byteAt s k ||| MK)))
      simp only [B, UInt8.toNat_and, UInt8.toNat_or] at q q2
      have hval : bits .and .u8 ((byteAt cur (a + k)).toNat : Int) (((byteAt s k).toNat ||| MK.toNat : Nat) : Int) = (((byteAt cur (a + k)).toNat &&& ((byteAt s k).toNat ||| MK.toNat) : Nat) : Int) := by
       rw [← UInt8.toNat_or, ← UInt8.toNat_and]; exact and_u8 _ _
      rw [hval]
      exact ⟨k + 1, by omega, by go_num, by rw [HKM.out.1, HKM.out.2, H3.out.2.2]; exact q, q2⟩
     case measure => simp [intOf]; omega
  ·have hke : k = s.length := by omega
   have hdone : ¬ (k : Int) < s.length := by omega
   have hdf : decide ((k : Int) < s.length) = false := decide_eq_false hdone
   have hfin : cur = tornP f.keep f.mask f.bs a s := by rw [← hcur, hke]; rfl
   have H3 := Lib.hid (And.intro h3 (And.intro k3 hfin))
   clear h3 k3 hcur hcl hke hfin c0 c1 c2 c3 c4 c5 c6 c4' c5'
   go_wp2_with (fail)
   refine (ftold_any true wr).mono ?_
   rintro e w4 ⟨rfl, rfl⟩
   go_wp2_with (fail)
   go_ret
   exact ⟨rfl, by rw [← H3.out.2.2]; exact H3.out.1, H3.out.2.1⟩
theorem erase_arm (w : World) (fb bb cb : Nat) (f : Fl) (h : FlAt w fb bb cb f) (ha : ArmOK f) (h1 : f.armed ≠ 1) (k : Nat) (hk : k < f.cs.length) :
  Calls Tryz.prog 160 #[Ptr fb, I k] w (FlPost (I 0) fb bb cb w { f.tick with bs := eraseL f.bs k, cs := f.cs.set k (wrap64 (numAt f.cs k + 1)) }) := by
 have HBL := Lib.hid (blocks_any w fb bb cb f h)
 have HST := Lib.hid (step_arm w fb bb cb f h ha)
 rw [show decide (f.armed = 1) = false from decide_eq_false h1] at HST
 have hd := ha.1
 obtain ⟨c0, c1, c2, c3, c4, c5, c6⟩ := h.cells
 rw [hd] at c6
 have hl := h.size
 have hln := h.len
 have hfw := h.few
 have hkI : (k : Int) < f.cs.length := by omega
 have hkI2 : (k : Int) ≤ 256 := by omega
 have HLN := Lib.hid hln
 clear h hd ha hln h1
 go_enter Tryz.func160, Tryz.ntmps160
 go_wp2_with (fail)
 refine HBL.out.mono ?_
 rintro e w1 ⟨rfl, rfl⟩
 go_wp2_with (fail)
 refine HST.out.mono ?_
 rintro e w2 ⟨rfl, h2, k2⟩
 clear c0 c1 c2 c3 c4 c5 c6
 obtain ⟨c0, c1, c2, c3, c4, c5, c6⟩ := h2.cells
 have hcell := h2.cnt.cell k hk
 have hfree := h2.cnt.free
 have h3 := h2.count k (wrap64 (numAt f.cs k + 1))
 have k3 := k2.setCell (.inl (by simp) : (⟨cb, k, none⟩ : Addr).block ∈ [fb, bb, cb] ∨ _) (I (wrap64 (numAt f.cs k + 1)))
 have H3 := Lib.hid (And.intro h3 k3)
 clear h2 k2 h3 k3
 go_wp2_with (fail)
 go_loopw [35] (fun i wr => ∃ p : Nat, p ≤ 8 ∧ i = I p ∧ FlAt wr fb bb cb { f.tick with bs := onL f.bs (512 * k) (64 * p) fun _ _ => 255, cs := f.cs.set k (wrap64 (numAt f.cs k + 1)) } ∧ Kept [fb, bb, cb] w1 wr) (fun i _ => 8 - (intOf i).toNat)
 case atStart => exact ⟨0, by omega, rfl, by rw [Nat.mul_zero, onL_zero]; exact H3.out.1, H3.out.2⟩
 case round =>
  obtain ⟨p, hp, rfl, h3, k3⟩ := hrel
  have H4 := Lib.hid (And.intro h3 k3)
  clear h3 k3 c0 c1 c2 c3 c4 c5 c6 hcell hfree
  by_cases hlt : p < 8
  ·have hltI : (p : Int) < 8 := by omega
   go_wp2_with (fail)
   go_loopw [62] (fun i wr => ∃ q : Nat, q ≤ 64 ∧ i = I q ∧ FlAt wr fb bb cb { f.tick with bs := onL f.bs (512 * k) (64 * p + q) fun _ _ => 255, cs := f.cs.set k (wrap64 (numAt f.cs k + 1)) } ∧ Kept [fb, bb, cb] w1 wr) (fun i _ => 64 - (intOf i).toNat)
   case atStart => exact ⟨0, by omega, rfl, H4.out.1, H4.out.2⟩
   case round =>
    obtain ⟨q, hq, rfl, h5, k5⟩ := hrel
    obtain ⟨cur, hcur⟩ : ∃ cur, (onL f.bs (512 * k) (64 * p + q) fun _ _ => (255 : UInt8)) = cur := ⟨_, rfl⟩
    rw [hcur] at h5
    have hcl : cur.length = f.bs.length := by rw [← hcur, onL_len]
    by_cases hlt2 : q < 64
    ·have hlt2I : (q : Int) < 64 := by omega
     have hin : 512 * k + (64 * p + q) < f.bs.length := by rw [HLN.out]; omega
     have hinI : (k : Int) * 512 + p * 64 + q < f.bs.length := by omega
     obtain ⟨c0, c1, c2, c3, c4, c5, c6⟩ := h5.cells
     have hcell := h5.row.cell (k * 512 + p * 64 + q) (by show _ < cur.length; omega)
     have hfree := h5.row.free
     have hnext := onL_succ f.bs (512 * k) (64 * p + q) (fun _ _ => (255 : UInt8)) (by omega)
     rw [hcur] at hnext
     have he : 512 * k + (64 * p + q) = k * 512 + p * 64 + q := by omega
     rw [he] at hnext
     have H5 := Lib.hid (And.intro h5 (And.intro k5 hnext))
     simp only at hcell c0
     rw [hcl] at c0
     clear h5 k5 hnext hcur hcl he hin
     go_wp2_with (fail)
     go_roundw
     case rel =>
      have z1 := H5.out.1.put (k * 512 + p * 64 + q) 255
      have z2 := H5.out.2.1.setCell (.inl (by simp) : (⟨bb, k * 512 + p * 64 + q, none⟩ : Addr).block ∈ [fb, bb, cb] ∨ _) (B 255)
      exact ⟨q + 1, by omega, by go_num, by rw [show 64 * p + (q + 1) = 64 * p + q + 1 from rfl, H5.out.2.2]; exact z1, z2⟩
     case measure => simp [intOf]; omega
    ·have hqe : q = 64 := by omega
     subst hqe
     have H5 := Lib.hid (And.intro h5 (And.intro k5 hcur))
     clear h5 k5 hcur
     go_wp2_with (fail)
     go_roundw
     case rel => exact ⟨p + 1, by omega, by go_num, by rw [show 64 * (p + 1) = 64 * p + 64 by omega, H5.out.2.2]; exact H5.out.1, H5.out.2.1⟩
     case measure => simp [intOf]; omega
  ·have hpe : p = 8 := by omega
   subst hpe
   go_wp2_with (fail)
   refine (ftold_any false wr).mono ?_
   rintro e w4 ⟨rfl, rfl⟩
   go_wp2_with (fail)
   go_ret
   exact ⟨rfl, H4.out.1, H4.out.2⟩
def tornEG (keep : Int) (mask : UInt8) (j : Nat) (b : UInt8) : UInt8 := if ((j / 64 : Nat) : Int) < keep then 255 else if ((j / 64 : Nat) : Int) = keep then b ||| mask else b
def tornE (keep : Int) (mask : UInt8) (bs : List UInt8) (k : Nat) : List UInt8 := onL bs (512 * k) 512 (tornEG keep mask)
theorem onL_succ' (bs : List UInt8) (a n : Nat) (g : Nat → UInt8 → UInt8) (h : a + n < bs.length) : onL bs a (n + 1) g = (onL bs a n g).set (a + n) (g n (byteAt bs (a + n))) := onL_succ bs a n g h
theorem erase_torn (w : World) (fb bb cb : Nat) (f : Fl) (h : FlAt w fb bb cb f) (ha : ArmOK f) (h1 : f.armed = 1) (k : Nat) (hk : k < f.cs.length) :
  Calls Tryz.prog 160 #[Ptr fb, I k] w (FlPost (I 2) fb bb cb w { f.tick with bs := tornE f.keep f.mask f.bs k, cs := f.cs.set k (wrap64 (numAt f.cs k + 1)) }) := by
 have HBL := Lib.hid (blocks_any w fb bb cb f h)
 have HST := Lib.hid (step_arm w fb bb cb f h ha)
 rw [show decide (f.armed = 1) = true from decide_eq_true h1] at HST
 have hd := ha.1
 obtain ⟨c0, c1, c2, c3, c4, c5, c6⟩ := h.cells
 rw [hd] at c6
 have hl := h.size
 have hln := h.len
 have hfw := h.few
 have hkI : (k : Int) < f.cs.length := by omega
 have hkI2 : (k : Int) ≤ 256 := by omega
 have HLN := Lib.hid hln
 clear h hd ha hln h1
 go_enter Tryz.func160, Tryz.ntmps160
 go_wp2_with (fail)
 refine HBL.out.mono ?_
 rintro e w1 ⟨rfl, rfl⟩
 go_wp2_with (fail)
 refine HST.out.mono ?_
 rintro e w2 ⟨rfl, h2, k2⟩
 clear c0 c1 c2 c3 c4 c5 c6
 obtain ⟨c0, c1, c2, c3, c4, c5, c6⟩ := h2.cells
 have hcell := h2.cnt.cell k hk
 have hfree := h2.cnt.free
 have h3 := h2.count k (wrap64 (numAt f.cs k + 1))
 have k3 := k2.setCell (.inl (by simp) : (⟨cb, k, none⟩ : Addr).block ∈ [fb, bb, cb] ∨ _) (I (wrap64 (numAt f.cs k + 1)))
 have H3 := Lib.hid (And.intro h3 k3)
 clear h2 k2 h3 k3
 go_wp2_with (fail)
 go_loopw [35] (fun i wr => ∃ p : Nat, p ≤ 8 ∧ i = I p ∧ FlAt wr fb bb cb { f.tick with bs := onL f.bs (512 * k) (64 * p) (tornEG f.keep f.mask), cs := f.cs.set k (wrap64 (numAt f.cs k + 1)) } ∧ Kept [fb, bb, cb] w1 wr) (fun i _ => 8 - (intOf i).toNat)
 case atStart => exact ⟨0, by omega, rfl, by rw [Nat.mul_zero, onL_zero]; exact H3.out.1, H3.out.2⟩
 case round =>
  obtain ⟨p, hp, rfl, h3, k3⟩ := hrel
  obtain ⟨e0, e1, e2, e3, e4, e5, e6⟩ := h3.cells
  have c4' : wr.cell? ⟨fb, 4, none⟩ = some (I f.keep) := e4
  have c5' : wr.cell? ⟨fb, 5, none⟩ = some (B f.mask) := e5
  have H4 := Lib.hid (And.intro h3 (And.intro k3 hp))
  have hp0 : (0 : Int) ≤ p := by omega
  clear h3 k3 c0 c1 c2 c3 c4 c5 c6 hcell hfree e0 e1 e2 e3 e4 e5 e6
  obtain ⟨KP, hKP⟩ : ∃ KP, f.keep = KP := ⟨_, rfl⟩
  obtain ⟨MK, hMK⟩ : ∃ MK, f.mask = MK := ⟨_, rfl⟩
  rw [hKP] at c4'
  rw [hMK] at c5'
  have HKM := Lib.hid (And.intro hKP hMK)
  clear hKP hMK
  by_cases hlt : p < 8
  ·have hltI : (p : Int) < 8 := by omega
   by_cases q1 : (p : Int) < KP
   ·have q1d : decide (KP ≤ (p : Int)) = false := decide_eq_false (by omega)
    go_wp2_with (fail)
    go_loopw [62] (fun i wr => ∃ q : Nat, q ≤ 64 ∧ i = I q ∧ FlAt wr fb bb cb { f.tick with bs := onL f.bs (512 * k) (64 * p + q) (tornEG KP MK), cs := f.cs.set k (wrap64 (numAt f.cs k + 1)) } ∧ Kept [fb, bb, cb] w1 wr) (fun i _ => 64 - (intOf i).toNat)
    case atStart => exact ⟨0, by omega, rfl, by have := H4.out.1; rw [HKM.out.1, HKM.out.2] at this; exact this, H4.out.2.1⟩
    case round =>
     obtain ⟨q, hq, rfl, h5, k5⟩ := hrel
     obtain ⟨cur, hcur⟩ : ∃ cur, (onL f.bs (512 * k) (64 * p + q) (tornEG KP MK)) = cur := ⟨_, rfl⟩
     rw [hcur] at h5
     have hcl : cur.length = f.bs.length := by rw [← hcur, onL_len]
     by_cases hlt2 : q < 64
     ·have hlt2I : (q : Int) < 64 := by omega
      have hin : 512 * k + (64 * p + q) < f.bs.length := by rw [HLN.out]; omega
      have hinI : (k : Int) * 512 + p * 64 + q < f.bs.length := by omega
      obtain ⟨c0, c1, c2, c3, c4, c5, c6⟩ := h5.cells
      have hcell := h5.row.cell (k * 512 + p * 64 + q) (by show _ < cur.length; omega)
      have hfree := h5.row.free
      have hnext := onL_succ' f.bs (512 * k) (64 * p + q) (tornEG KP MK) (by omega)
      rw [hcur] at hnext
      have hg : tornEG KP MK (64 * p + q) (byteAt f.bs (512 * k + (64 * p + q))) = 255 := by unfold tornEG; rw [if_pos (by omega)]
      rw [hg] at hnext
      have he : 512 * k + (64 * p + q) = k * 512 + p * 64 + q := by omega
      rw [he] at hnext
      have H5 := Lib.hid (And.intro h5 (And.intro k5 hnext))
      simp only at hcell c0
      rw [hcl] at c0
      clear h5 k5 hnext hcur hcl he hin hg c4 c5
      go_wp2_with (fail)
      go_roundw
      case rel =>
       have z1 := H5.out.1.put (k * 512 + p * 64 + q) 255
       have z2 := H5.out.2.1.setCell (.inl (by simp) : (⟨bb, k * 512 + p * 64 + q, none⟩ : Addr).block ∈ [fb, bb, cb] ∨ _) (B 255)
       exact ⟨q + 1, by omega, by go_num, by rw [show 64 * p + (q + 1) = 64 * p + q + 1 from rfl, H5.out.2.2]; exact z1, z2⟩
      case measure => simp [intOf]; omega
     ·have hqe : q = 64 := by omega
      subst hqe
      have H5 := Lib.hid (And.intro h5 (And.intro k5 hcur))
      clear h5 k5 hcur
      go_wp2_with (fail)
      go_roundw
      case rel => exact ⟨p + 1, by omega, by go_num, by rw [show 64 * (p + 1) = 64 * p + 64 by omega, HKM.out.1, HKM.out.2, H5.out.2.2]; exact H5.out.1, H5.out.2.1⟩
      case measure => simp [intOf]; omega
   ·have q1d : decide (KP ≤ (p : Int)) = true := decide_eq_true (by omega)
    by_cases q2 : KP < (p : Int)
    ·go_wp2_with (fail)
     refine (ftold_any true wr).mono ?_
     rintro e w4 ⟨rfl, rfl⟩
     go_wp2_with (fail)
     go_ret
     have hfin : onL f.bs (512 * k) (64 * p) (tornEG f.keep f.mask) = tornE f.keep f.mask f.bs k := by
      unfold tornE
      exact onL_more f.bs (512 * k) (64 * p) 512 _ (by omega) (fun j b hj _ => by unfold tornEG; rw [HKM.out.1, if_neg (by omega), if_neg (by omega)])
     exact ⟨rfl, by rw [← hfin]; exact H4.out.1, H4.out.2.1⟩
    ·have q2d : decide (KP < (p : Int)) = false := decide_eq_false q2
     have hke : (p : Int) = KP := by omega
     have HKE := Lib.hid hke
     clear hke
     go_wp2_with (fail)
     go_loopw [62] (fun i wr => ∃ q : Nat, q ≤ 64 ∧ i = I q ∧ FlAt wr fb bb cb { f.tick with bs := onL f.bs (512 * k) (64 * p + q) (tornEG KP MK), cs := f.cs.set k (wrap64 (numAt f.cs k + 1)) } ∧ Kept [fb, bb, cb] w1 wr) (fun i _ => 64 - (intOf i).toNat)
     case atStart => exact ⟨0, by omega, rfl, by have := H4.out.1; rw [HKM.out.1, HKM.out.2] at this; exact this, H4.out.2.1⟩
     case round =>
      obtain ⟨q, hq, rfl, h5, k5⟩ := hrel
      obtain ⟨cur, hcur⟩ : ∃ cur, (onL f.bs (512 * k) (64 * p + q) (tornEG KP MK)) = cur := ⟨_, rfl⟩
      rw [hcur] at h5
      have hcl : cur.length = f.bs.length := by rw [← hcur, onL_len]
      by_cases hlt2 : q < 64
      ·have hlt2I : (q : Int) < 64 := by omega
       have hin : 512 * k + (64 * p + q) < f.bs.length := by rw [HLN.out]; omega
       have hinI : (k : Int) * 512 + p * 64 + q < f.bs.length := by omega
       obtain ⟨c0, c1, c2, c3, c4, c5, c6⟩ := h5.cells
       have hcell := h5.row.cell (k * 512 + p * 64 + q) (by show _ < cur.length; omega)
       have hfree := h5.row.free
       have hnext := onL_succ' f.bs (512 * k) (64 * p + q) (tornEG KP MK) (by omega)
       rw [hcur] at hnext
       have hat : byteAt cur (k * 512 + p * 64 + q) = byteAt f.bs (512 * k + (64 * p + q)) := by rw [← hcur, show k * 512 + p * 64 + q = 512 * k + (64 * p + q) by omega, onL_at _ _ _ _ _ (by omega), if_neg (by omega)]
       have hg : tornEG KP MK (64 * p + q) (byteAt f.bs (512 * k + (64 * p + q))) = byteAt cur (k * 512 + p * 64 + q) ||| MK := by unfold tornEG; have hke := HKE.out; rw [if_neg (by omega), if_pos (by omega), hat]
       rw [hg] at hnext
       have he : 512 * k + (64 * p + q) = k * 512 + p * 64 + q := by omega
       rw [he] at hnext
       have H5 := Lib.hid (And.intro h5 (And.intro k5 hnext))
       simp only at hcell c0
       rw [hcl] at c0
       clear h5 k5 hnext hcur hcl he hin hg hat c4 c5
       go_wp2_with (fail)
       go_roundw
       case rel =>
        have z1 := H5.out.1.put (k * 512 + p * 64 + q) (byteAt cur (k * 512 + p * 64 + q) ||| MK)
        have z2 := H5.out.2.1.setCell (.inl (by simp) : (⟨bb, k * 512 + p * 64 + q, none⟩ : Addr).block ∈ [fb, bb, cb] ∨ _) (B (byteAt cur (k * 512 + p * 64 + q) ||| MK))
        simp only [B, UInt8.toNat_or] at z1 z2
        exact ⟨q + 1, by omega, by go_num, by rw [show 64 * p + (q + 1) = 64 * p + q + 1 from rfl, H5.out.2.2]; exact z1, z2⟩
       case measure => simp [intOf]; omega
      ·have hqe : q = 64 := by omega
       subst hqe
       have H5 := Lib.hid (And.intro h5 (And.intro k5 hcur))
       clear h5 k5 hcur
       go_wp2_with (fail)
       go_roundw
       case rel => exact ⟨p + 1, by omega, by go_num, by rw [show 64 * (p + 1) = 64 * p + 64 by omega, HKM.out.1, HKM.out.2, H5.out.2.2]; exact H5.out.1, H5.out.2.1⟩
       case measure => simp [intOf]; omega
  ·have hpe : p = 8 := by omega
   subst hpe
   go_wp2_with (fail)
   refine (ftold_any true wr).mono ?_
   rintro e w4 ⟨rfl, rfl⟩
   go_wp2_with (fail)
   go_ret
   exact ⟨rfl, H4.out.1, H4.out.2.1⟩
theorem perase_of (r : Int) (g : Fl) (w : World) (pb fb bb cb fs n : Nat) (f : Fl) (h : PtAt w pb fb bb cb fs n f) (k : Nat) (hk : k < n) (hg : g.cs.length = f.cs.length)
  (hcall : ∀ W, FlAt W fb bb cb f → Calls Tryz.prog 160 #[Ptr fb, I (fs + k : Nat)] W (FlPost (I r) fb bb cb W g)) :
  Calls Tryz.prog 132 #[Ptr pb, I k] w (PtPost (I r) pb fb bb cb fs n w g) := by
 obtain ⟨c0, c1, c2⟩ := h.cells
 have hlt : fs + k < f.cs.length := by have := h.fit; omega
 have HE := Lib.hid hcall
 have HG := Lib.hid hg
 have hb := h.bound.1
 have hbI : (fs : Int) + n ≤ 256 := by omega
 have hkI : (k : Int) < n := by omega
 have hsum : (fs : Int) + k = (fs + k : Nat) := by omega
 have H := Lib.hid h
 obtain ⟨N, hN⟩ : ∃ N : Nat, fs + k = N := ⟨_, rfl⟩
 have hN9 : (N : Int) ≤ 256 := by omega
 rw [hN] at HE hsum
 have hwr : IntKind.i64.wrap (N : Int) = N := by rw [IntKind.wrap_i64]; omega
 clear h hN hk hlt hcall hg
 go_enter Tryz.func132, Tryz.ntmps132
 go_wp2_with (fail)
 go_region_with (first | (go_at_call 160; (with_reducible refine (HE.out _ H.out.fl.drew).mono ?_); rintro e w1 ⟨rfl, h1, k1⟩))
 all_goals
  go_wp2
  go_ret
  exact ⟨rfl, H.out.turned ((Kept.refl _ _).drew.trans' k1) h1 HG.out, (Kept.refl _ _).drew.trans' k1⟩
def eraseA (f : Fl) (k : Nat) : Fl := { f.tick with bs := eraseL f.bs k, cs := f.cs.set k (wrap64 (numAt f.cs k + 1)) }
def eraseT (f : Fl) (k : Nat) : Fl := { f.tick with bs := tornE f.keep f.mask f.bs k, cs := f.cs.set k (wrap64 (numAt f.cs k + 1)) }
def progA (f : Fl) (a : Nat) (s : List UInt8) : Fl := { f.tick with bs := progL f.bs a s }
def progT (f : Fl) (a : Nat) (s : List UInt8) : Fl := { f.tick with bs := tornP f.keep f.mask f.bs a s }
theorem perase_arm (w : World) (pb fb bb cb fs n : Nat) (f : Fl) (h : PtAt w pb fb bb cb fs n f) (ha : ArmOK f) (h1 : f.armed ≠ 1) (k : Nat) (hk : k < n) :
  Calls Tryz.prog 132 #[Ptr pb, I k] w (PtPost (I 0) pb fb bb cb fs n w (eraseA f (fs + k))) :=
 perase_of 0 _ w pb fb bb cb fs n f h k hk (by simp [eraseA, Fl.tick]) (fun W hW => erase_arm W fb bb cb f hW ha h1 (fs + k) (by have := h.fit; omega))
theorem perase_torn (w : World) (pb fb bb cb fs n : Nat) (f : Fl) (h : PtAt w pb fb bb cb fs n f) (ha : ArmOK f) (h1 : f.armed = 1) (k : Nat) (hk : k < n) :
  Calls Tryz.prog 132 #[Ptr pb, I k] w (PtPost (I 2) pb fb bb cb fs n w (eraseT f (fs + k))) :=
 perase_of 2 _ w pb fb bb cb fs n f h k hk (by simp [eraseT, Fl.tick]) (fun W hW => erase_torn W fb bb cb f hW ha h1 (fs + k) (by have := h.fit; omega))
theorem pwrite_arm (w : World) (pb fb bb cb fs n : Nat) (f : Fl) (h : PtAt w pb fb bb cb fs n f) (ha : ArmOK f) (h1 : f.armed ≠ 1) (a : Nat) (s : List UInt8) (hs : s ≠ []) (hk : a + s.length ≤ 512 * n) (hp : a % 64 + s.length ≤ 64) :
  Calls Tryz.prog 133 #[Ptr pb, I a, S s] w (PtPost (I 0) pb fb bb cb fs n w (progA f (512 * fs + a) s)) := by
 have HP := Lib.hid (place_any w pb fb bb cb fs n f h a s.length hk)
 have hpos : 1 ≤ s.length := by have := List.length_pos_iff.2 hs; omega
 have HG : Hid (∀ W, FlAt W fb bb cb f → Calls Tryz.prog 162 #[Ptr fb, I (512 * fs + a : Nat), S s] W (FlPost (I 0) fb bb cb W (progA f (512 * fs + a) s))) := Lib.hid (fun W (h : FlAt W fb bb cb f) => prog_arm W fb bb cb f h ha h1 (512 * fs + a) s hs (by have := h.len; have := hk; have := ‹PtAt w pb fb bb cb fs n f›.bound.2; omega) (by omega))
 have HL : Hid ((progA f (512 * fs + a) s).cs.length = f.cs.length) := Lib.hid rfl
 have hmin : min (s.length : Int) (64 - ((512 * fs + a : Nat) : Int) % 64) = s.length := by omega
 have hb := h.bound.1
 have hN2 : ((512 * fs + a : Nat) : Int) ≤ 262144 := by omega
 obtain ⟨N, hN⟩ : ∃ N : Nat, 512 * fs + a = N := ⟨_, rfl⟩
 rw [hN] at HP HG HL hmin hN2 ⊢
 obtain ⟨g, hg⟩ : ∃ g, progA f N s = g := ⟨_, rfl⟩
 rw [hg] at HG HL ⊢
 have hse : (s != []) = true := by simpa using hs
 have hse2 : (!s.isEmpty) = true := by simpa using hs
 have hsl : (s.length : Int) ≤ 64 := by omega
 have hposI : (1 : Int) ≤ s.length := by omega
 have H := Lib.hid h
 clear h hN hk hp hs hb hg ha h1
 go_enter Tryz.func133, Tryz.ntmps133
 go_wp2_with (fail)
 refine HP.out.mono ?_
 rintro e w1 ⟨rfl, rfl⟩
 go_wp2_with (fail)
 go_loopw [2, 7] (fun v v7 wr => (v = S s ∧ v7 = I N ∧ wr = w1) ∨ (v = S [] ∧ PtAt wr pb fb bb cb fs n g ∧ Kept [fb, bb, cb] w1 wr)) (fun v _ _ => lenV v)
 case atStart => exact .inl ⟨rfl, rfl, rfl⟩
 case round =>
  rcases hrel with ⟨rfl, rfl, hw⟩ | ⟨rfl, h2, k2⟩
  ·replace hw := hw.symm
   subst hw
   go_upto_region 6 with (fail)
   go_cut [10] from 21 to 46 (fun v wx => v = I 0 ∧ PtAt wx pb fb bb cb fs n g ∧ Kept [fb, bb, cb] w1 wx)
   case first =>
    obtain ⟨c0, c1, c2⟩ := H.out.cells
    go_region_with (first | (go_at_call 162; (with_reducible refine (HG.out _ H.out.fl.drew).mono ?_); rintro e w2 ⟨rfl, h2, k2⟩))
    all_goals
     go_wp2
     go_meet
     exact ⟨rfl, H.out.turned ((Kept.refl _ _).drew.trans' k2) h2 HL.out, (Kept.refl _ _).drew.trans' k2⟩
   case rest =>
    obtain ⟨rfl, h2, k2⟩ := hcut
    have H2 := Lib.hid (And.intro h2 k2)
    clear h2 k2
    have hw9 : IntKind.i64.wrap ((N : Int) + s.length) = N + s.length := by rw [IntKind.wrap_i64]; omega
    go_wp2_with (fail)
    go_region
    all_goals
     go_wp2
     go_roundw
     case rel => exact .inr ⟨by first | rfl | (simp; rfl), H2.out.1.same ((Kept.refl _ _).drew), H2.out.2.drew⟩
     case measure => simp [lenV, ByteArray.size]; omega
  ·go_wp2_with (fail)
   go_ret
   exact ⟨rfl, h2, k2⟩
theorem pwrite_torn (w : World) (pb fb bb cb fs n : Nat) (f : Fl) (h : PtAt w pb fb bb cb fs n f) (ha : ArmOK f) (h1 : f.armed = 1) (a : Nat) (s : List UInt8) (hs : s ≠ []) (hk : a + s.length ≤ 512 * n) (hp : a % 64 + s.length ≤ 64) :
  Calls Tryz.prog 133 #[Ptr pb, I a, S s] w (PtPost (I 2) pb fb bb cb fs n w (progT f (512 * fs + a) s)) := by
 have HP := Lib.hid (place_any w pb fb bb cb fs n f h a s.length hk)
 have hpos : 1 ≤ s.length := by have := List.length_pos_iff.2 hs; omega
 have HG : Hid (∀ W, FlAt W fb bb cb f → Calls Tryz.prog 162 #[Ptr fb, I (512 * fs + a : Nat), S s] W (FlPost (I 2) fb bb cb W (progT f (512 * fs + a) s))) := Lib.hid (fun W (h : FlAt W fb bb cb f) => prog_torn W fb bb cb f h ha h1 (512 * fs + a) s hs (by have := h.len; have := hk; have := ‹PtAt w pb fb bb cb fs n f›.bound.2; omega) (by omega))
 have HL : Hid ((progT f (512 * fs + a) s).cs.length = f.cs.length) := Lib.hid rfl
 have hmin : min (s.length : Int) (64 - ((512 * fs + a : Nat) : Int) % 64) = s.length := by omega
 have hb := h.bound.1
 have hN2 : ((512 * fs + a : Nat) : Int) ≤ 262144 := by omega
 obtain ⟨N, hN⟩ : ∃ N : Nat, 512 * fs + a = N := ⟨_, rfl⟩
 rw [hN] at HP HG HL hmin hN2 ⊢
 obtain ⟨g, hg⟩ : ∃ g, progT f N s = g := ⟨_, rfl⟩
 rw [hg] at HG HL ⊢
 have hse : (s != []) = true := by simpa using hs
 have hse2 : (!s.isEmpty) = true := by simpa using hs
 have hsl : (s.length : Int) ≤ 64 := by omega
 have hposI : (1 : Int) ≤ s.length := by omega
 have H := Lib.hid h
 clear h hN hk hp hs hb hg ha h1
 go_enter Tryz.func133, Tryz.ntmps133
 go_wp2_with (fail)
 refine HP.out.mono ?_
 rintro e w1 ⟨rfl, rfl⟩
 go_wp2_with (fail)
 go_loopw [2, 7] (fun v v7 wr => v = S s ∧ v7 = I N ∧ wr = w1) (fun v _ _ => lenV v)
 case atStart => exact ⟨rfl, rfl, rfl⟩
 case round =>
  obtain ⟨rfl, rfl, hw⟩ := hrel
  replace hw := hw.symm
  subst hw
  go_upto_region 6 with (fail)
  go_cut [10] from 21 to 46 (fun v wx => v = I 2 ∧ PtAt wx pb fb bb cb fs n g ∧ Kept [fb, bb, cb] w1 wx)
  case first =>
   obtain ⟨c0, c1, c2⟩ := H.out.cells
   go_region_with (first | (go_at_call 162; (with_reducible refine (HG.out _ H.out.fl.drew).mono ?_); rintro e w2 ⟨rfl, h2, k2⟩))
   all_goals
    go_wp2
    go_meet
    exact ⟨rfl, H.out.turned ((Kept.refl _ _).drew.trans' k2) h2 HL.out, (Kept.refl _ _).drew.trans' k2⟩
  case rest =>
   obtain ⟨rfl, h2, k2⟩ := hcut
   have H2 := Lib.hid (And.intro h2 k2)
   clear h2 k2
   go_wp2_with (fail)
   go_ret
   exact ⟨rfl, H2.out.1, H2.out.2⟩
def LcPost (r : Int) (lb pb fb bb cb fs n : Nat) (v : Value) (segs : List Sg) (g : Fl) (d : Bool) (w : World) (e : Ending) (w' : World) : Prop :=
 e = .returned (I r) ∧ LgAt w' lb pb fb bb cb fs n v segs g d ∧ Kept (LgT lb fb bb cb v) w w'
theorem lclean_keep (w : World) (lb pb fb bb cb fs n : Nat) (v : Value) (segs : List Sg) (f : Fl) (h : LgAt w lb pb fb bb cb fs n v segs f false) (hd : f.dead = false) (k : Nat) (hk : k < n) (hc : allB (blockOf f.bs (fs + k)) = true) :
  Calls Tryz.prog 103 #[Ptr lb, I k] w (LcPost 0 lb pb fb bb cb fs n v segs f false w) :=
 (lclean_any w lb pb fb bb cb fs n v segs f h hd k hk hc).mono fun e w' ⟨a, b, c⟩ => ⟨a, b, LgT.sub1 c⟩
theorem lclean_erase (r : Int) (g : Fl) (w : World) (lb pb fb bb cb fs n : Nat) (v : Value) (segs : List Sg) (f : Fl) (h : LgAt w lb pb fb bb cb fs n v segs f false) (hd : f.dead = false) (k : Nat) (hk : k < n) (hc : allB (blockOf f.bs (fs + k)) = false)
  (hcall : ∀ W, PtAt W pb fb bb cb fs n f → Calls Tryz.prog 132 #[Ptr pb, I k] W (PtPost (I r) pb fb bb cb fs n W g)) :
  Calls Tryz.prog 103 #[Ptr lb, I k] w (LcPost r lb pb fb bb cb fs n v segs g (r == 2) w) := by
 obtain ⟨c0, c1, c2⟩ := h.cells
 have hb := h.pt.bound.1
 have hc1 := clean_any w pb fb bb cb fs n f h.pt hd (k * 512) 512 (by omega) (by omega)
 rw [show ((512 : Nat) : Int) = 512 from rfl] at hc1
 have HC := Lib.hid hc1
 have he : (f.bs.drop (512 * fs + k * 512)).take 512 = blockOf f.bs (fs + k) := by unfold blockOf; congr 2; omega
 rw [he, hc] at HC
 have H := Lib.hid h
 have HE := Lib.hid hcall
 have hkI : (k : Int) ≤ 256 := by omega
 have hkm : (k : Int) * 512 = (k * 512 : Nat) := by omega
 have hkb : ((k * 512 : Nat) : Int) ≤ 131072 := by omega
 have hkb0 : (0 : Int) ≤ ((k * 512 : Nat) : Int) := by omega
 obtain ⟨N, hN⟩ : ∃ N : Nat, k * 512 = N := ⟨_, rfl⟩
 rw [hN] at HC hkm hkb hkb0
 clear h hd hk hc he hb hc1 hN hcall
 go_enter Tryz.func103, Tryz.ntmps103
 go_wp2_with (fail)
 refine HC.out.mono ?_
 rintro e w1 ⟨rfl, rfl⟩
 go_wp2_with (fail)
 refine (HE.out _ H.out.pt).mono ?_
 rintro e w2 ⟨rfl, h2, k2⟩
 have h3 := H.out.turned k2 h2
 go_wp2_with (fail)
 refine (ltold_any w2 lb pb fb bb cb fs n v segs g false h3 r).mono ?_
 rintro e w3 ⟨rfl, h4, k4⟩
 go_wp2_with (fail)
 go_ret
 exact ⟨rfl, h4, (LgT.sub3 k2).trans' (LgT.sub1 k4)⟩
theorem makes_dead1 (w : World) (lb pb fb bb cb fs n : Nat) (v : Value) (segs : List Sg) (k num : Nat) (f0 : Fl) (hkb : k ≤ 256) (hnum : num < 256 ^ 6) 
  (HC : Calls Tryz.prog 103 #[Ptr lb, I k] w (LcPost 2 lb pb fb bb cb fs n v segs f0 true w)) :
  Calls Tryz.prog 104 #[Ptr lb, I k, I num] w (LcPost 2 lb pb fb bb cb fs n v segs f0 true w) := by
 replace HC := Lib.hid HC
 go_enter Tryz.func104, Tryz.ntmps104
 go_wp2_with (fail)
 refine HC.out.mono ?_
 rintro e w1 ⟨rfl, h1, k1⟩
 go_wp2_with (fail)
 go_ret
 exact ⟨rfl, h1, k1⟩
theorem makes_dead2 (w : World) (lb pb fb bb cb fs n : Nat) (v : Value) (segs : List Sg) (k num : Nat) (f0 f1 : Fl) (hkb : k ≤ 256) (hnum : num < 256 ^ 6) 
  (HC : Calls Tryz.prog 103 #[Ptr lb, I k] w (LcPost 0 lb pb fb bb cb fs n v segs f0 false w))
  (HW1 : ∀ W, PtAt W pb fb bb cb fs n f0 → Calls Tryz.prog 133 #[Ptr pb, I (k * 512 : Nat), S (83 :: putN 6 num)] W (PtPost (I 2) pb fb bb cb fs n W f1)) :
  Calls Tryz.prog 104 #[Ptr lb, I k, I num] w (LcPost 2 lb pb fb bb cb fs n v segs f1 true w) := by
 replace HC := Lib.hid HC
 have HBG := Lib.hid (fun W => begin_any W num hnum)
 replace HW1 := Lib.hid HW1
 have hkI : (k : Int) ≤ 256 := by omega
 obtain ⟨N, hN⟩ : ∃ N : Nat, k * 512 = N := ⟨_, rfl⟩
 obtain ⟨M, hM⟩ : ∃ M : Nat, N + 7 = M := ⟨_, rfl⟩
 have hN1 : (k : Int) * 512 = N := by omega
 have hN2 : (N : Int) ≤ 131072 := by omega
 have hM1 : (N : Int) + 7 = M := by omega
 rw [hN] at HW1
 obtain ⟨bg, hbg⟩ : ∃ bg, 83 :: putN 6 num = bg := ⟨_, rfl⟩
 rw [hbg] at HBG HW1
 clear hkb hnum hbg hN hM
 go_enter Tryz.func104, Tryz.ntmps104
 go_wp2_with (fail)
 refine HC.out.mono ?_
 rintro e w1 ⟨rfl, h1, k1⟩
 have H1 := Lib.hid (And.intro h1 k1)
 obtain ⟨c0, c1, c2⟩ := h1.cells
 clear h1 k1
 have hm1 : IntKind.i64.wrap ((k : Int) * 512) = N := by rw [IntKind.wrap_i64]; omega
 have hm2 : IntKind.i64.wrap (N : Int) = N := by rw [IntKind.wrap_i64]; omega
 go_upto_region 4 with (fail)
 go_cut [8] from 16 to 26 (fun v8 wx => v8 = I 2 ∧ LgAt wx lb pb fb bb cb fs n v segs f1 true ∧ Kept (LgT lb fb bb cb v) w1 wx)
 case first =>
  go_region_with (first
   | (go_at_call 134; (with_reducible refine (HBG.out _).mono ?_); rintro e w2 ⟨rfl, k2⟩; have e0 := (H1.out.1.same ((Kept.refl [] w1).drew.trans' k2)).cells.1)
   | (go_at_call 133; (with_reducible refine (HW1.out _ (H1.out.1.same ((Kept.refl [] w1).drew.trans' k2)).pt).mono ?_); rintro e w3 ⟨rfl, h3, k3⟩)
   | (go_at_call 131; (with_reducible refine (ltold_any _ lb pb fb bb cb fs n v segs f1 false ((H1.out.1.same ((Kept.refl [] w1).drew.trans' k2)).turned k3 h3) 2).mono ?_); rintro e w4 ⟨rfl, h4, k4⟩))
  all_goals
   go_wp2
   go_meet
   exact ⟨rfl, h4, (LgT.sub0 ((Kept.refl [] w1).drew.trans' k2)).trans' ((LgT.sub3 k3).trans' (LgT.sub1 k4))⟩
 case rest =>
 obtain ⟨rfl, h2, k2⟩ := hcut
 have H2 := Lib.hid (And.intro h2 (H1.out.2.trans' k2))
 clear h2 k2 H1 c0 c1 c2
 go_wp2_with (fail)
 go_ret
 exact ⟨rfl, H2.out.1, H2.out.2⟩
theorem makes_dead3 (w : World) (lb pb fb bb cb fs n : Nat) (v : Value) (segs : List Sg) (k num : Nat) (f0 f1 f2 : Fl) (hkb : k ≤ 256) (hnum : num < 256 ^ 6) 
  (HC : Calls Tryz.prog 103 #[Ptr lb, I k] w (LcPost 0 lb pb fb bb cb fs n v segs f0 false w))
  (HW1 : ∀ W, PtAt W pb fb bb cb fs n f0 → Calls Tryz.prog 133 #[Ptr pb, I (k * 512 : Nat), S (83 :: putN 6 num)] W (PtPost (I 0) pb fb bb cb fs n W f1))
  (HW2 : ∀ W, PtAt W pb fb bb cb fs n f1 → Calls Tryz.prog 133 #[Ptr pb, I (k * 512 + 7 : Nat), S [0]] W (PtPost (I 2) pb fb bb cb fs n W f2)) :
  Calls Tryz.prog 104 #[Ptr lb, I k, I num] w (LcPost 2 lb pb fb bb cb fs n v segs f2 true w) := by
 replace HC := Lib.hid HC
 have HBG := Lib.hid (fun W => begin_any W num hnum)
 replace HW1 := Lib.hid HW1
 replace HW2 := Lib.hid HW2
 have hkI : (k : Int) ≤ 256 := by omega
 obtain ⟨N, hN⟩ : ∃ N : Nat, k * 512 = N := ⟨_, rfl⟩
 obtain ⟨M, hM⟩ : ∃ M : Nat, N + 7 = M := ⟨_, rfl⟩
 have hN1 : (k : Int) * 512 = N := by omega
 have hN2 : (N : Int) ≤ 131072 := by omega
 have hM1 : (N : Int) + 7 = M := by omega
 rw [hN] at HW1
 rw [hN, hM] at HW2
 obtain ⟨bg, hbg⟩ : ∃ bg, 83 :: putN 6 num = bg := ⟨_, rfl⟩
 rw [hbg] at HBG HW1
 clear hkb hnum hbg hN hM
 go_enter Tryz.func104, Tryz.ntmps104
 go_wp2_with (fail)
 refine HC.out.mono ?_
 rintro e w1 ⟨rfl, h1, k1⟩
 have H1 := Lib.hid (And.intro h1 k1)
 obtain ⟨c0, c1, c2⟩ := h1.cells
 clear h1 k1
 have hm1 : IntKind.i64.wrap ((k : Int) * 512) = N := by rw [IntKind.wrap_i64]; omega
 have hm2 : IntKind.i64.wrap (N : Int) = N := by rw [IntKind.wrap_i64]; omega
 go_upto_region 4 with (fail)
 go_cut [8] from 16 to 26 (fun v8 wx => v8 = I 0 ∧ LgAt wx lb pb fb bb cb fs n v segs f1 false ∧ Kept (LgT lb fb bb cb v) w1 wx)
 case first =>
  go_region_with (first
   | (go_at_call 134; (with_reducible refine (HBG.out _).mono ?_); rintro e w2 ⟨rfl, k2⟩; have e0 := (H1.out.1.same ((Kept.refl [] w1).drew.trans' k2)).cells.1)
   | (go_at_call 133; (with_reducible refine (HW1.out _ (H1.out.1.same ((Kept.refl [] w1).drew.trans' k2)).pt).mono ?_); rintro e w3 ⟨rfl, h3, k3⟩)
   | (go_at_call 131; (with_reducible refine (ltold_any _ lb pb fb bb cb fs n v segs f1 false ((H1.out.1.same ((Kept.refl [] w1).drew.trans' k2)).turned k3 h3) 0).mono ?_); rintro e w4 ⟨rfl, h4, k4⟩))
  all_goals
   go_wp2
   go_meet
   exact ⟨rfl, h4, (LgT.sub0 ((Kept.refl [] w1).drew.trans' k2)).trans' ((LgT.sub3 k3).trans' (LgT.sub1 k4))⟩
 case rest =>
 obtain ⟨rfl, h2, k2⟩ := hcut
 have H2 := Lib.hid (And.intro h2 (H1.out.2.trans' k2))
 clear H1 c0 c1 c2
 obtain ⟨c0, c1, c2⟩ := h2.cells
 clear h2 k2
 go_wp2_with (fail)
 refine (HW2.out _ H2.out.1.pt).mono ?_
 rintro e w3 ⟨rfl, h3, k3⟩
 have H3 := Lib.hid (And.intro (H2.out.1.turned k3 h3) (H2.out.2.trans' (LgT.sub3 k3)))
 clear h3 k3 H2 c0 c1 c2
 go_wp2_with (fail)
 refine (ltold_any _ lb pb fb bb cb fs n v segs _ false H3.out.1 2).mono ?_
 rintro e w4 ⟨rfl, h4, k4⟩
 have H4 := Lib.hid (And.intro h4 (H3.out.2.trans' (LgT.sub1 k4)))
 clear h4 k4 H3
 go_wp2_with (fail)
 go_ret
 exact ⟨rfl, H4.out.1, H4.out.2⟩
theorem makes_of (w : World) (lb pb fb bb cb fs n : Nat) (v : Value) (segs : List Sg) (k num : Nat) (f0 f1 f2 : Fl) (hkb : k ≤ 256) (hnum : num < 256 ^ 6) (hs : segs.length ≤ 1000)
    (HC : Calls Tryz.prog 103 #[Ptr lb, I k] w (LcPost 0 lb pb fb bb cb fs n v segs f0 false w))
    (HW1 : ∀ W, PtAt W pb fb bb cb fs n f0 → Calls Tryz.prog 133 #[Ptr pb, I (k * 512 : Nat), S (83 :: putN 6 num)] W (PtPost (I 0) pb fb bb cb fs n W f1))
    (HW2 : ∀ W, PtAt W pb fb bb cb fs n f1 → Calls Tryz.prog 133 #[Ptr pb, I (k * 512 + 7 : Nat), S [0]] W (PtPost (I 0) pb fb bb cb fs n W f2)) :
    Calls Tryz.prog 104 #[Ptr lb, I k, I num] w (LgPost (I 0) lb pb fb bb cb fs n v w (segs ++ [(k, num)]) f2 false) := by
  replace HC := Lib.hid HC
  have HBG := Lib.hid (fun W => begin_any W num hnum)
  replace HW1 := Lib.hid HW1
  replace HW2 := Lib.hid HW2
  have hkI : (k : Int) ≤ 256 := by omega
  obtain ⟨N, hN⟩ : ∃ N : Nat, k * 512 = N := ⟨_, rfl⟩
  obtain ⟨M, hM⟩ : ∃ M : Nat, N + 7 = M := ⟨_, rfl⟩
  have hN1 : (k : Int) * 512 = N := by omega
  have hN2 : (N : Int) ≤ 131072 := by omega
  have hM1 : (N : Int) + 7 = M := by omega
  rw [hN] at HW1
  rw [hN, hM] at HW2
  obtain ⟨bg, hbg⟩ : ∃ bg, 83 :: putN 6 num = bg := ⟨_, rfl⟩
  rw [hbg] at HBG HW1
  obtain ⟨i0, hi, hz0, hz1, hz2⟩ := info_parts seg_info
  have HI := Lib.hid (And.intro hi (And.intro hz0 (And.intro hz1 hz2)))
  have HS := Lib.hid hs
  clear hkb hnum hbg hN hM hi hz0 hz1 hz2 hs
  go_enter Tryz.func104, Tryz.ntmps104
  go_wp2_with (fail)
  refine HC.out.mono ?_
  rintro e w1 ⟨rfl, h1, k1⟩
  have H1 := Lib.hid (And.intro h1 k1)
  obtain ⟨c0, c1, c2⟩ := h1.cells
  clear h1 k1
  have hm1 : IntKind.i64.wrap ((k : Int) * 512) = N := by rw [IntKind.wrap_i64]; omega
  have hm2 : IntKind.i64.wrap (N : Int) = N := by rw [IntKind.wrap_i64]; omega
  go_upto_region 4 with (fail)
  go_cut [8] from 16 to 26 (fun v8 wx => v8 = I 0 ∧ LgAt wx lb pb fb bb cb fs n v segs f1 false ∧ Kept (LgT lb fb bb cb v) w1 wx)
  case first =>
    go_region_with (first
      | (go_at_call 134; (with_reducible refine (HBG.out _).mono ?_); rintro e w2 ⟨rfl, k2⟩; have e0 := (H1.out.1.same ((Kept.refl [] w1).drew.trans' k2)).cells.1)
      | (go_at_call 133; (with_reducible refine (HW1.out _ (H1.out.1.same ((Kept.refl [] w1).drew.trans' k2)).pt).mono ?_); rintro e w3 ⟨rfl, h3, k3⟩)
      | (go_at_call 131; (with_reducible refine (ltold_any _ lb pb fb bb cb fs n v segs f1 false ((H1.out.1.same ((Kept.refl [] w1).drew.trans' k2)).turned k3 h3) 0).mono ?_); rintro e w4 ⟨rfl, h4, k4⟩))
    all_goals
      go_wp2
      go_meet
      exact ⟨rfl, h4, (LgT.sub0 ((Kept.refl [] w1).drew.trans' k2)).trans' ((LgT.sub3 k3).trans' (LgT.sub1 k4))⟩
  case rest =>
  obtain ⟨rfl, h2, k2⟩ := hcut
  have H2 := Lib.hid (And.intro h2 (H1.out.2.trans' k2))
  clear H1 c0 c1 c2
  obtain ⟨c0, c1, c2⟩ := h2.cells
  clear h2 k2
  go_wp2_with (fail)
  refine (HW2.out _ H2.out.1.pt).mono ?_
  rintro e w3 ⟨rfl, h3, k3⟩
  have H3 := Lib.hid (And.intro (H2.out.1.turned k3 h3) (H2.out.2.trans' (LgT.sub3 k3)))
  clear h3 k3 H2 c0 c1 c2
  go_wp2_with (fail)
  refine (ltold_any _ lb pb fb bb cb fs n v segs _ false H3.out.1 0).mono ?_
  rintro e w4 ⟨rfl, h4, k4⟩
  have k5 := H3.out.2.trans' (LgT.sub1 k4)
  obtain ⟨p, c, rfl⟩ := own_form h4.own
  obtain ⟨c0, c1, c2⟩ := h4.cells
  have H4 := Lib.hid (And.intro h4 k5)
  clear h4 k4 k5 H3
  obtain ⟨hi, hz0, hz1, hz2⟩ := HI.out
  go_wp2_with (first
    | (at_builtin
       refine wpList_append_lies _ rfl (.tmp 47) (.tmp 51) _ rfl (lb + 1) 207 i0 (.agg #[.int .i64 0, .int .i64 0]) 2 16 Tryz.underlying168 hi hz0 hz1 hz2 rfl (by decide) (.slice p segs.length c) segs.length (segCells segs) rfl (own_kept H4.out.1.own ((Kept.refl [] w4).alloc _) (by simp)) ⟨w4.heap.size, 0, none⟩ 1 1 [I k, I num] rfl rfl (World.news_of_block (heap_new w4 _)) (by intro u hu; simp at hu; rcases hu with rfl | rfl <;> rfl) (by omega) (by have := HS.out; unfold maxLen; omega) (by have := HS.out; omega) (by rw [World.size_alloc]; have := H4.out.1.lt; omega) _ rfl ?_
       intro g cap wa own1 gr1 hat hlt
       have kg := kept_grown gr1
       have kw : Kept (LgT lb fb bb cb (.slice p segs.length c)) w4 wa := (LgT.sub0 ((Kept.refl [] w4).alloc _)).trans' (kg.mono (by intro x hx; simp [LgT] at hx ⊢; simp [hx]))
       have hblk : wa.heap[lb]? = some (.cells #[Ptr pb, .slice p segs.length c, .bool false] 170 (0, 0)) := kg.at (((Kept.refl [] w4).alloc _).at H4.out.1.blk (by simp)) (by intro hm; have := (own_lt H4.out.1.own lb (by simpa using hm)).1; omega)
       have hp : PtAt wa pb fb bb cb fs n (f2) := (H4.out.1.pt.same ((Kept.refl [] w4).alloc _)).kept kg (by intro hm; have := (own_lt H4.out.1.own pb (by simpa using hm)).1; have := H4.out.1.n1; omega) (by intro hm; have := (own_lt H4.out.1.own fb (by simpa using hm)).1; have := H4.out.1.n2; omega) (by intro hm; have := (own_lt H4.out.1.own bb (by simpa using hm)).1; have := H4.out.1.n3; omega) (by intro hm; have := (own_lt H4.out.1.own cb (by simpa using hm)).1; have := H4.out.1.n4; omega)
       have d1 : wa.cell? ⟨lb, 1, none⟩ = some (.slice p segs.length c) := by rw [cell_at hblk]; rfl
       have df : ∀ i, wa.frozen? ⟨lb, i, none⟩ = false := free_at hblk
       have HA := Lib.hid (And.intro own1 (And.intro kw (And.intro hblk (And.intro hp hat))))
       clear own1 gr1 hat hlt kg kw hblk hp c1))
  go_ret
  obtain ⟨own1, kw, hblk, hp, hat⟩ := HA.out
  have hsc : segCells segs ++ [I k, I num] = segCells (segs ++ [(k, num)]) := by simp [segCells]
  rw [hsc] at own1
  have kfin : Kept [lb] wa (wa.setCell ⟨lb, 1, none⟩ (.slice (some ⟨g, 0, none⟩) (segs.length + 1) cap)) := (Kept.refl _ _).setCell (.inl (by simp)) _
  refine ⟨rfl, .slice (some ⟨g, 0, none⟩) (segs.length + 1) cap, ?_, ⟨heap_setCell_at hblk 1 _, by rw [List.length_append]; exact own_kept own1 kfin (fun q hq hm => by have := (own_lt own1 q hq).1; simp at hm; omega), hp.kept kfin (by have := H4.out.1.n1; simp; omega) (by have := H4.out.1.n2; simp; omega) (by have := H4.out.1.n3; simp; omega) (by have := H4.out.1.n4; simp; omega), H4.out.1.n1, H4.out.1.n2, H4.out.1.n3, H4.out.1.n4⟩, ?_⟩
  · intro q hq
    have hgq : g = q := by simpa [Value.ownBlock] using hq
    subst hgq
    rcases hat with hat | hat
    · exact .inl hat
    · right
      rw [hat, World.size_alloc]
      have := H4.out.2.size
      omega
  · exact H4.out.2.trans' (kw.trans' (LgT.sub1 kfin))
end Go.Proofs.YteplbljjlbdhaaaGreatDoor
