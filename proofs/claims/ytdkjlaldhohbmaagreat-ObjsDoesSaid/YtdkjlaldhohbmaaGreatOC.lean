/- Walks and lemmas on the program of this seat, used by its statements; each theorem bears its own conditions. -/
import Derived.Test.YtdkjlaldhohbmaaGreatOB
import Derived.Test.YtdkjlaldhohbmaaGreatShelf
import Derived.Handy
import Derived.OwnWalk
import Derived.Deep.AppendLies
import Derived.IntWalk
import Derived.Deep.CutRange
import Derived.Deep.RegionHeld3
namespace Go.Proofs.YtdkjlaldhohbmaaGreat
open Go.RowKit
set_option linter.unusedVariables false
set_option linter.unusedSimpArgs false
set_option maxHeartbeats 8000000
set_option maxRecDepth 100000
/-! ### A part of the flash -/
theorem FlAt.drew {w : World} {fb bb cb : Nat} {f : Fl} (h : FlAt w fb bb cb f) : FlAt w.drew fb bb cb f := ⟨h.blk, h.row, h.cnt, h.n1, h.n2, h.n3, h.len, h.few, h.pos⟩
theorem FlAt.drewN {w : World} {fb bb cb : Nat} {f : Fl} (h : FlAt w fb bb cb f) (k : Nat) : FlAt (w.drewN k) fb bb cb f := ⟨h.blk, h.row, h.cnt, h.n1, h.n2, h.n3, h.len, h.few, h.pos⟩
structure PtAt (w : World) (pb fb bb cb : Nat) (fs n : Nat) (f : Fl) : Prop where
  blk : w.heap[pb]? = some (.cells #[Ptr fb, I fs, I n] 125 (0, 0))
  fl : FlAt w fb bb cb f
  fit : fs + n ≤ f.cs.length
  np : 1 ≤ n
  n1 : fb ≠ pb
  n2 : bb ≠ pb
  n3 : cb ≠ pb
section
variable {w : World} {pb fb bb cb fs n : Nat} {f : Fl}
theorem PtAt.cells (h : PtAt w pb fb bb cb fs n f) : w.cell? ⟨pb, 0, none⟩ = some (Ptr fb) ∧ w.cell? ⟨pb, 1, none⟩ = some (I fs) ∧ w.cell? ⟨pb, 2, none⟩ = some (I n) := by
  refine ⟨?_, ?_, ?_⟩ <;> (rw [cell_at h.blk]; rfl)
theorem PtAt.kept {w' : World} {T : List Nat} (h : PtAt w pb fb bb cb fs n f) (k : Kept T w w') (h0 : pb ∉ T) (h1 : fb ∉ T) (h2 : bb ∉ T) (h3 : cb ∉ T) : PtAt w' pb fb bb cb fs n f :=
  ⟨k.at h.blk h0, h.fl.kept k h1 h2 h3, h.fit, h.np, h.n1, h.n2, h.n3⟩
theorem PtAt.same {w' : World} (h : PtAt w pb fb bb cb fs n f) (k : Kept [] w w') : PtAt w' pb fb bb cb fs n f := h.kept k (by simp) (by simp) (by simp) (by simp)
theorem PtAt.turned {w' : World} {f' : Fl} (h : PtAt w pb fb bb cb fs n f) (k : Kept [fb, bb, cb] w w') (h2 : FlAt w' fb bb cb f') (hl : f'.cs.length = f.cs.length) : PtAt w' pb fb bb cb fs n f' :=
  ⟨k.at h.blk (by simp; exact ⟨Ne.symm h.n1, Ne.symm h.n2, Ne.symm h.n3⟩), h2, by rw [hl]; exact h.fit, h.np, h.n1, h.n2, h.n3⟩
theorem PtAt.bound (h : PtAt w pb fb bb cb fs n f) : fs + n ≤ 256 ∧ 512 * fs + 512 * n ≤ f.bs.length := by
  have := h.fit
  have := h.fl.few
  have := h.fl.len
  omega
end
def PtPost (v : Value) (pb fb bb cb fs n : Nat) (w : World) (f : Fl) (e : Ending) (w' : World) : Prop := e = .returned v ∧ PtAt w' pb fb bb cb fs n f ∧ Kept [fb, bb, cb] w w'
theorem size_any (w : World) (pb fb bb cb fs n : Nat) (f : Fl) (h : PtAt w pb fb bb cb fs n f) : Calls Tryz.prog 47 #[Ptr pb] w fun e w' => e = .returned (I (n * 512 : Nat)) ∧ w' = w := by
  obtain ⟨c0, c1, c2⟩ := h.cells
  have hb := h.bound.1
  have hbI : (fs : Int) + n ≤ 256 := by omega
  clear h
  go_enter Tryz.func47, Tryz.ntmps47
  go_wp2_with (fail)
  go_ret
  exact ⟨by simp, rfl⟩
theorem pdead_any (w : World) (pb fb bb cb fs n : Nat) (f : Fl) (h : PtAt w pb fb bb cb fs n f) : Calls Tryz.prog 53 #[Ptr pb] w fun e w' => e = .returned (.bool f.dead) ∧ w' = w := by
  obtain ⟨c0, c1, c2⟩ := h.cells
  have HF := Lib.hid (fdead_any w fb bb cb f h.fl)
  clear h
  go_enter Tryz.func53, Tryz.ntmps53
  go_wp2_with (fail)
  refine HF.out.mono ?_
  rintro e w1 ⟨rfl, rfl⟩
  go_wp2_with (fail)
  go_ret
  exact ⟨rfl, rfl⟩
theorem place_any (w : World) (pb fb bb cb fs n : Nat) (f : Fl) (h : PtAt w pb fb bb cb fs n f) (a k : Nat) (hk : a + k ≤ 512 * n) : Calls Tryz.prog 108 #[Ptr pb, I a, I k] w fun e w' => e = .returned (.tuple #[I (512 * fs + a : Nat), .bool true]) ∧ w' = w := by
  obtain ⟨c0, c1, c2⟩ := h.cells
  have HS := Lib.hid (size_any w pb fb bb cb fs n f h)
  have hb := h.bound.1
  have hbI : (fs : Int) + n ≤ 256 := by omega
  have hkI : (a : Int) + k ≤ 512 * n := by omega
  have h1 : (a : Int) ≤ (n * 512 : Nat) := by omega
  have h2 : (k : Int) ≤ (n * 512 : Nat) - (a : Int) := by omega
  have h0 : (n * 512 : Nat) ≤ 131072 := by omega
  have h0I : ((n * 512 : Nat) : Int) ≤ 131072 := by omega
  have hfin : (fs : Int) * 512 + a = (512 * fs + a : Nat) := by omega
  have HFIN := Lib.hid hfin
  obtain ⟨N, hN⟩ : ∃ N : Nat, n * 512 = N := ⟨_, rfl⟩
  rw [hN] at HS h1 h2 h0 h0I
  clear h hk hfin hN
  go_enter Tryz.func108, Tryz.ntmps108
  go_wp2_with (fail)
  refine HS.out.mono ?_
  rintro e w1 ⟨rfl, rfl⟩
  go_wp2_with (fail)
  refine HS.out.mono ?_
  rintro e w1 ⟨rfl, rfl⟩
  go_wp2_with (fail)
  go_ret2
  exact ⟨by rw [HFIN.out]; rfl, rfl⟩
theorem pread_any (w : World) (pb fb bb cb fs n : Nat) (f : Fl) (h : PtAt w pb fb bb cb fs n f) (hd : f.dead = false) (a k : Nat) (hp : 1 ≤ k) (hk : a + k ≤ 512 * n) : Calls Tryz.prog 84 #[Ptr pb, I a, I k] w fun e w' => e = .returned (.tuple #[S ((f.bs.drop (512 * fs + a)).take k), I 0]) ∧ w' = w := by
  obtain ⟨c0, c1, c2⟩ := h.cells
  have HP := Lib.hid (place_any w pb fb bb cb fs n f h a k hk)
  have HR := Lib.hid (fread_any w fb bb cb f h.fl hd (512 * fs + a) k hp (by have := h.bound.2; omega))
  obtain ⟨N, hN⟩ : ∃ N : Nat, 512 * fs + a = N := ⟨_, rfl⟩
  rw [hN] at HP HR ⊢
  clear h hN
  go_enter Tryz.func84, Tryz.ntmps84
  go_wp2_with (fail)
  refine HP.out.mono ?_
  rintro e w1 ⟨rfl, rfl⟩
  go_wp2_with (fail)
  refine HR.out.mono ?_
  rintro e w1 ⟨rfl, rfl⟩
  go_wp2_with (fail)
  go_ret2
  exact ⟨rfl, rfl⟩
theorem perase_any (w : World) (pb fb bb cb fs n : Nat) (f : Fl) (h : PtAt w pb fb bb cb fs n f) (hd : f.dead = false) (ha : f.armed = 0) (k : Nat) (hk : k < n) :
    Calls Tryz.prog 112 #[Ptr pb, I k] w (PtPost (I 0) pb fb bb cb fs n w { f.stepped with bs := eraseL f.bs (fs + k), cs := f.cs.set (fs + k) (wrap64 (numAt f.cs (fs + k) + 1)) }) := by
  obtain ⟨c0, c1, c2⟩ := h.cells
  have hlt : fs + k < f.cs.length := by have := h.fit; omega
  have HE := Lib.hid (fun W (h : FlAt W fb bb cb f) => erase_any W fb bb cb f h hd ha (fs + k) hlt)
  have hb := h.bound.1
  have hbI : (fs : Int) + n ≤ 256 := by omega
  have hkI : (k : Int) < n := by omega
  have hsum : (fs : Int) + k = (fs + k : Nat) := by omega
  have H := Lib.hid h
  obtain ⟨N, hN⟩ : ∃ N : Nat, fs + k = N := ⟨_, rfl⟩
  have hN9 : (N : Int) ≤ 256 := by omega
  rw [hN] at HE hsum ⊢
  have hwr : IntKind.i64.wrap (N : Int) = N := by rw [IntKind.wrap_i64]; omega
  clear h hN hk hlt
  go_enter Tryz.func112, Tryz.ntmps112
  go_wp2_with (fail)
  go_region_with (first | (go_at_call 32; (with_reducible refine (HE.out _ H.out.fl.drew).mono ?_); rintro e w1 ⟨rfl, h1, k1⟩))
  all_goals
    go_wp2
    go_ret
    exact ⟨rfl, H.out.turned ((Kept.refl _ _).drew.trans' k1) h1 (by simp [Fl.stepped]), (Kept.refl _ _).drew.trans' k1⟩
def allB (l : List UInt8) : Bool := l.all fun c => c == 255
theorem count_all (l : List UInt8) : (((Lib.countByte l 255 : Nat) : Int) == (l.length : Int)) = allB l := by
  unfold allB Lib.countByte
  rw [Bool.eq_iff_iff]
  simp only [beq_iff_eq, List.all_eq_true]
  rw [show (((l.count 255 : Nat) : Int) = (l.length : Int)) ↔ l.count 255 = l.length by omega, List.count_eq_length]
  exact ⟨fun h x hx => (h x hx).symm, fun h x hx => (h x hx).symm⟩
theorem clean_any (w : World) (pb fb bb cb fs n : Nat) (f : Fl) (h : PtAt w pb fb bb cb fs n f) (hd : f.dead = false) (a k : Nat) (hp : 1 ≤ k) (hk : a + k ≤ 512 * n) : Calls Tryz.prog 75 #[Ptr pb, I a, I k] w fun e w' => e = .returned (.tuple #[.bool (allB ((f.bs.drop (512 * fs + a)).take k)), I 0]) ∧ w' = w := by
  have HR := Lib.hid (pread_any w pb fb bb cb fs n f h hd a k hp hk)
  obtain ⟨l, hl⟩ : ∃ l, (f.bs.drop (512 * fs + a)).take k = l := ⟨_, rfl⟩
  have hll : l.length ≤ 131072 := by rw [← hl]; have := h.fl.size; simp; omega
  have hllI : (l.length : Int) ≤ 131072 := by omega
  have hc := Tryz.strings_Count_one ⟨l.toArray⟩ 255 w
  have HC : Hid (Calls Tryz.prog 102 #[S l, S [255]] w fun e w' => e = .returned (I (Lib.countByte l 255)) ∧ w' = w) := Lib.hid (by simpa using hc)
  rw [hl] at HR ⊢
  have HA := Lib.hid (count_all l)
  clear h hc hl
  go_enter Tryz.func75, Tryz.ntmps75
  go_wp2_with (fail)
  refine HR.out.mono ?_
  rintro e w1 ⟨rfl, rfl⟩
  go_wp2_with (fail)
  refine HC.out.mono ?_
  rintro e w1 ⟨rfl, rfl⟩
  go_wp2_with (fail)
  go_ret2
  exact ⟨by rw [← HA.out]; rfl, rfl⟩
def lenV (v : Value) : Nat := match v with | .string b => b.size | _ => 0
theorem pwrite_any (w : World) (pb fb bb cb fs n : Nat) (f : Fl) (h : PtAt w pb fb bb cb fs n f) (hd : f.dead = false) (ha : f.armed = 0) (a : Nat) (s : List UInt8) (hs : s ≠ []) (hk : a + s.length ≤ 512 * n) (hp : a % 64 + s.length ≤ 64) :
    Calls Tryz.prog 106 #[Ptr pb, I a, S s] w (PtPost (I 0) pb fb bb cb fs n w { f.stepped with bs := progL f.bs (512 * fs + a) s }) := by
  have HP := Lib.hid (place_any w pb fb bb cb fs n f h a s.length hk)
  have hpos : 1 ≤ s.length := by have := List.length_pos_iff.2 hs; omega
  have HG := Lib.hid (fun W (h : FlAt W fb bb cb f) => prog_any W fb bb cb f h hd ha (512 * fs + a) s hs (by have := h.len; have := hk; have := ‹PtAt w pb fb bb cb fs n f›.bound.2; omega) (by omega))
  have hmin : min (s.length : Int) (64 - ((512 * fs + a : Nat) : Int) % 64) = s.length := by omega
  have hb := h.bound.1
  have hN2 : ((512 * fs + a : Nat) : Int) ≤ 262144 := by omega
  obtain ⟨N, hN⟩ : ∃ N : Nat, 512 * fs + a = N := ⟨_, rfl⟩
  rw [hN] at HP HG hmin hN2 ⊢
  have hse : (s != []) = true := by simpa using hs
  have hse2 : (!s.isEmpty) = true := by simpa using hs
  have hsl : (s.length : Int) ≤ 64 := by omega
  have hposI : (1 : Int) ≤ s.length := by omega
  have H := Lib.hid h
  clear h hN hk hp hs hb
  go_enter Tryz.func106, Tryz.ntmps106
  go_wp2_with (fail)
  refine HP.out.mono ?_
  rintro e w1 ⟨rfl, rfl⟩
  go_wp2_with (fail)
  go_loopw [2, 7] (fun v v7 wr => (v = S s ∧ v7 = I N ∧ wr = w1) ∨ (v = S [] ∧ PtAt wr pb fb bb cb fs n { f.stepped with bs := progL f.bs N s } ∧ Kept [fb, bb, cb] w1 wr)) (fun v _ _ => lenV v)
  case atStart => exact .inl ⟨rfl, rfl, rfl⟩
  case round =>
    rcases hrel with ⟨rfl, rfl, hw⟩ | ⟨rfl, h2, k2⟩
    · replace hw := hw.symm
      subst hw
      go_upto_region 6 with (fail)
      go_cut [10] from 21 to 46 (fun v wx => v = I 0 ∧ PtAt wx pb fb bb cb fs n { f.stepped with bs := progL f.bs N s } ∧ Kept [fb, bb, cb] w1 wx)
      case first =>
        obtain ⟨c0, c1, c2⟩ := H.out.cells
        go_region_with (first | (go_at_call 131; (with_reducible refine (HG.out _ H.out.fl.drew).mono ?_); rintro e w2 ⟨rfl, h2, k2⟩))
        all_goals
          go_wp2
          go_meet
          exact ⟨rfl, H.out.turned ((Kept.refl _ _).drew.trans' k2) h2 rfl, (Kept.refl _ _).drew.trans' k2⟩
      case rest =>
        obtain ⟨rfl, h2, k2⟩ := hcut
        have H2 := Lib.hid (And.intro h2 k2)
        clear h2 k2
        have hw9 : IntKind.i64.wrap ((N : Int) + s.length) = N + s.length := by rw [IntKind.wrap_i64]; omega
        go_wp2_with (fail)
        go_region
        all_goals
          go_wp2
          go_roundw
          case rel => exact .inr ⟨by first | rfl | (simp; rfl), H2.out.1.same ((Kept.refl _ _).drew), H2.out.2.drew⟩
          case measure => simp [lenV, ByteArray.size]; omega
    · go_wp2_with (fail)
      go_ret
      exact ⟨rfl, h2, k2⟩
end Go.Proofs.YtdkjlaldhohbmaaGreat
