/- Walks and lemmas on the program of this seat, used by its statements; each theorem bears its own conditions. -/
import Derived.Test.YtncdfaocemfgfaaGreatOA
import Derived.Handy
import Derived.OwnWalk
import Derived.Deep.AppendLies
import Derived.IntWalk
import Derived.Deep.CutRange
import Derived.Deep.RegionHeld3
namespace Go.Proofs.YtncdfaocemfgfaaGreat
open Go.RowKit
set_option linter.unusedVariables false
set_option linter.unusedSimpArgs false
set_option maxHeartbeats 8000000
set_option maxRecDepth 100000
/-! ### Program, with the power on -/
def Fl.stepped (f : Fl) : Fl := { f with st := wrap64 (f.st + 1) }
theorem prog_any (w : World) (fb bb cb : Nat) (f : Fl) (h : FlAt w fb bb cb f) (hd : f.dead = false) (ha : f.armed = 0) (a : Nat) (s : List UInt8) (hs : s ≠ []) (hn : a + s.length ≤ f.bs.length) (hp : a / 64 = (a + s.length - 1) / 64) :
    Calls Tryz.prog 101 #[Ptr fb, I a, S s] w (FlPost (I 0) fb bb cb w { f.stepped with bs := progL f.bs a s }) := by
  have HB := Lib.hid (within_any w fb bb cb f h a s.length)
  have hw : withinF f a s.length = true := decide_eq_true ⟨by omega, by omega, by omega, by omega⟩
  rw [hw] at HB
  have HST := Lib.hid (step_any w fb bb cb f h ha)
  obtain ⟨c0, c1, c2, c3, c4, c5, c6⟩ := h.cells
  rw [hd] at c6
  have hl := h.size
  have hlI : (f.bs.length : Int) ≤ 131072 := by omega
  have hnI : (a : Int) + s.length ≤ f.bs.length := by omega
  have hse : (s == []) = false := by simpa using hs
  have hse2 : s.isEmpty = false := by simpa using hs
  have hpos : 1 ≤ s.length := by have := List.length_pos_iff.2 hs; omega
  have hposI : (1 : Int) ≤ s.length := by omega
  have hq : ((a : Int) / 64 != ((a : Int) + s.length - 1) / 64) = false := by simp; omega
  have HP := Lib.hid (And.intro hp hs)
  have HD := Lib.hid hd
  have HN := Lib.hid hn
  clear h hw hd ha hp hs
  go_enter Tryz.func101, Tryz.ntmps101
  go_wp2_with (fail)
  refine HB.out.mono ?_
  rintro e w1 ⟨rfl, rfl⟩
  go_wp2_with (fail)
  refine HST.out.mono ?_
  rintro e w2 ⟨rfl, h2, k2⟩
  have H2 := Lib.hid (And.intro h2 k2)
  clear h2 k2 c0 c1 c2 c3 c4 c5 c6
  go_wp2_with (fail)
  go_loopw [39] (fun i wr => ∃ k : Nat, k ≤ s.length ∧ i = I k ∧ FlAt wr fb bb cb { f.stepped with bs := onL f.bs a k fun j b => b &&& byteAt s j } ∧ Kept [fb, bb, cb] w1 wr) (fun i _ => s.length - (intOf i).toNat)
  case atStart => exact ⟨0, by omega, rfl, by rw [onL_zero]; exact H2.out.1, H2.out.2⟩
  case round =>
    obtain ⟨k, hk, rfl, h3, k3⟩ := hrel
    obtain ⟨cur, hcur⟩ : ∃ cur, (onL f.bs a k fun j b => b &&& byteAt s j) = cur := ⟨_, rfl⟩
    rw [hcur] at h3
    obtain ⟨c0, c1, c2, c3, c4, c5, c6⟩ := h3.cells
    have hcl : cur.length = f.bs.length := by rw [← hcur, onL_len]
    by_cases hlt : k < s.length
    · have hltI : (k : Int) < s.length := by omega
      have hcell := h3.row.cell (a + k) (by show a + k < cur.length; omega)
      have hat : byteAt cur (a + k) = byteAt f.bs (a + k) := by rw [← hcur, onL_at _ _ _ _ _ (by omega), if_neg (by omega)]
      have hfree := h3.row.free
      have hnext := onL_succ f.bs a k (fun j b => b &&& byteAt s j) (by omega)
      rw [hcur, ← hat] at hnext
      have H3 := Lib.hid (And.intro h3 (And.intro k3 hnext))
      have HCL := Lib.hid hcl
      simp only at hcell c0
      rw [hcl] at c0
      clear h3 k3 hat hnext hcur hcl
      go_wp2_with (fail)
      go_roundw
      case rel =>
        have q := H3.out.1.put (a + k) (byteAt cur (a + k) &&& byteAt s k)
        have q2 := H3.out.2.1.setCell (.inl (by simp) : (⟨bb, a + k, none⟩ : Addr).block ∈ [fb, bb, cb] ∨ _) (B (byteAt cur (a + k) &&& byteAt s k))
        simp only [B, UInt8.toNat_and] at q q2
        exact ⟨k + 1, by omega, by go_num, by rw [H3.out.2.2]; exact q, q2⟩
      case measure => simp [intOf]; omega
    · have hke : k = s.length := by omega
      have hdone : ¬ (k : Int) < s.length := by omega
      have hdf : decide ((k : Int) < s.length) = false := decide_eq_false hdone
      have hfin : cur = progL f.bs a s := by rw [← hcur, hke]; rfl
      have H3 := Lib.hid (And.intro h3 (And.intro k3 hfin))
      clear h3 k3 hcur hcl hke hfin c0 c1 c2 c3 c4 c5 c6
      go_wp2_with (fail)
      refine (ftold_any false wr).mono ?_
      rintro e w4 ⟨rfl, rfl⟩
      go_wp2_with (fail)
      go_ret
      exact ⟨rfl, by rw [← H3.out.2.2]; exact H3.out.1, H3.out.2.1⟩
/-! ### Erase, with the power on -/
theorem erase_any (w : World) (fb bb cb : Nat) (f : Fl) (h : FlAt w fb bb cb f) (hd : f.dead = false) (ha : f.armed = 0) (k : Nat) (hk : k < f.cs.length) :
    Calls Tryz.prog 106 #[Ptr fb, I k] w (FlPost (I 0) fb bb cb w { f.stepped with bs := eraseL f.bs k, cs := f.cs.set k (wrap64 (numAt f.cs k + 1)) }) := by
  have HBL := Lib.hid (blocks_any w fb bb cb f h)
  have HST := Lib.hid (step_any w fb bb cb f h ha)
  obtain ⟨c0, c1, c2, c3, c4, c5, c6⟩ := h.cells
  rw [hd] at c6
  have hl := h.size
  have hln := h.len
  have hfw := h.few
  have hkI : (k : Int) < f.cs.length := by omega
  have hkI2 : (k : Int) ≤ 256 := by omega
  have HLN := Lib.hid hln
  clear h hd ha hln
  go_enter Tryz.func106, Tryz.ntmps106
  go_wp2_with (fail)
  refine HBL.out.mono ?_
  rintro e w1 ⟨rfl, rfl⟩
  go_wp2_with (fail)
  refine HST.out.mono ?_
  rintro e w2 ⟨rfl, h2, k2⟩
  clear c0 c1 c2 c3 c4 c5 c6
  obtain ⟨c0, c1, c2, c3, c4, c5, c6⟩ := h2.cells
  have hcell := h2.cnt.cell k hk
  have hfree := h2.cnt.free
  have h3 := h2.count k (wrap64 (numAt f.cs k + 1))
  have k3 := k2.setCell (.inl (by simp) : (⟨cb, k, none⟩ : Addr).block ∈ [fb, bb, cb] ∨ _) (I (wrap64 (numAt f.cs k + 1)))
  have H3 := Lib.hid (And.intro h3 k3)
  clear h2 k2 h3 k3
  go_wp2_with (fail)
  go_loopw [35] (fun i wr => ∃ p : Nat, p ≤ 8 ∧ i = I p ∧ FlAt wr fb bb cb { f.stepped with bs := onL f.bs (512 * k) (64 * p) fun _ _ => 255, cs := f.cs.set k (wrap64 (numAt f.cs k + 1)) } ∧ Kept [fb, bb, cb] w1 wr) (fun i _ => 8 - (intOf i).toNat)
  case atStart => exact ⟨0, by omega, rfl, by rw [Nat.mul_zero, onL_zero]; exact H3.out.1, H3.out.2⟩
  case round =>
    obtain ⟨p, hp, rfl, h3, k3⟩ := hrel
    have H4 := Lib.hid (And.intro h3 k3)
    clear h3 k3 c0 c1 c2 c3 c4 c5 c6 hcell hfree
    by_cases hlt : p < 8
    · have hltI : (p : Int) < 8 := by omega
      go_wp2_with (fail)
      go_loopw [62] (fun i wr => ∃ q : Nat, q ≤ 64 ∧ i = I q ∧ FlAt wr fb bb cb { f.stepped with bs := onL f.bs (512 * k) (64 * p + q) fun _ _ => 255, cs := f.cs.set k (wrap64 (numAt f.cs k + 1)) } ∧ Kept [fb, bb, cb] w1 wr) (fun i _ => 64 - (intOf i).toNat)
      case atStart => exact ⟨0, by omega, rfl, H4.out.1, H4.out.2⟩
      case round =>
        obtain ⟨q, hq, rfl, h5, k5⟩ := hrel
        obtain ⟨cur, hcur⟩ : ∃ cur, (onL f.bs (512 * k) (64 * p + q) fun _ _ => (255 : UInt8)) = cur := ⟨_, rfl⟩
        rw [hcur] at h5
        have hcl : cur.length = f.bs.length := by rw [← hcur, onL_len]
        by_cases hlt2 : q < 64
        · have hlt2I : (q : Int) < 64 := by omega
          have hin : 512 * k + (64 * p + q) < f.bs.length := by rw [HLN.out]; omega
          have hinI : (k : Int) * 512 + p * 64 + q < f.bs.length := by omega
          obtain ⟨c0, c1, c2, c3, c4, c5, c6⟩ := h5.cells
          have hcell := h5.row.cell (k * 512 + p * 64 + q) (by show _ < cur.length; omega)
          have hfree := h5.row.free
          have hnext := onL_succ f.bs (512 * k) (64 * p + q) (fun _ _ => (255 : UInt8)) (by omega)
          rw [hcur] at hnext
          have he : 512 * k + (64 * p + q) = k * 512 + p * 64 + q := by omega
          rw [he] at hnext
          have H5 := Lib.hid (And.intro h5 (And.intro k5 hnext))
          simp only at hcell c0
          rw [hcl] at c0
          clear h5 k5 hnext hcur hcl he hin
          go_wp2_with (fail)
          go_roundw
          case rel =>
            have z1 := H5.out.1.put (k * 512 + p * 64 + q) 255
            have z2 := H5.out.2.1.setCell (.inl (by simp) : (⟨bb, k * 512 + p * 64 + q, none⟩ : Addr).block ∈ [fb, bb, cb] ∨ _) (B 255)
            exact ⟨q + 1, by omega, by go_num, by rw [show 64 * p + (q + 1) = 64 * p + q + 1 from rfl, H5.out.2.2]; exact z1, z2⟩
          case measure => simp [intOf]; omega
        · have hqe : q = 64 := by omega
          subst hqe
          have H5 := Lib.hid (And.intro h5 (And.intro k5 hcur))
          clear h5 k5 hcur
          go_wp2_with (fail)
          go_roundw
          case rel => exact ⟨p + 1, by omega, by go_num, by rw [show 64 * (p + 1) = 64 * p + 64 by omega, H5.out.2.2]; exact H5.out.1, H5.out.2.1⟩
          case measure => simp [intOf]; omega
    · have hpe : p = 8 := by omega
      subst hpe
      go_wp2_with (fail)
      refine (ftold_any false wr).mono ?_
      rintro e w4 ⟨rfl, rfl⟩
      go_wp2_with (fail)
      go_ret
      exact ⟨rfl, H4.out.1, H4.out.2⟩

end Go.Proofs.YtncdfaocemfgfaaGreat
