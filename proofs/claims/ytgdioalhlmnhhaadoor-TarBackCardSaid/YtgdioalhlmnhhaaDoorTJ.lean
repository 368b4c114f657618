/- Walks and lemmas on the program of this seat, used by its statements; each theorem bears its own conditions. -/
import Derived.Test.YtgdioalhlmnhhaaDoorTI
import Derived.Lib.IndexBytes
import Derived.Handy
namespace Go.Proofs.YtgdioalhlmnhhaaDoor
open Go.RowKit
set_option linter.unusedVariables false
set_option linter.unusedSimpArgs false
/-! ### fixed -/
def hello : List UInt8 := [104, 101, 108, 108, 111]
def fh : List UInt8 := TX.headL [97] 5
theorem fh_len : fh.length = 512 := TX.headL_len [97] 5 (by simp)
theorem fh_parse : TX.parseL fh = ⟨[97], 5, false, 0⟩ := TX.parse_head [97] 5 (by simp) (by simp) (by simp) (by omega)
theorem fh_head : TX.headF [97] 5 = (fh, 0) := by
  unfold TX.headF
  have : TX.okHead [97] 5 = true := by unfold TX.okHead; simp
  rw [this]; simp; rfl
theorem fh_none : TX.headF [] 0 = ([], 200) := by
  unfold TX.headF
  have : TX.okHead [] 0 = false := by unfold TX.okHead; simp
  rw [this]; simp
def fs : Nat → List UInt8
  | 0 => fh ++ (hello ++ zerosL 1531)
  | 1 => hello ++ zerosL 1531
  | 2 => zerosL 1531
  | 3 => zerosL 1024
  | 4 => zerosL 512
  | _ => []
def fr : Nat → TX.Rd
  | 0 => TX.rd0
  | 1 => ⟨[], [97], 5, 5, 507, 0, 1, 0⟩
  | 2 => ⟨[], [97], 5, 0, 507, 0, 1, 0⟩
  | 3 => ⟨[], [97], 5, 0, 0, 0, 1, 0⟩
  | 4 => ⟨[], [97], 5, 0, 0, 1, 1, 0⟩
  | _ => ⟨[], [97], 5, 0, 0, 2, 1, 0⟩
def fn : Nat → Nat
  | 0 => 512
  | 1 => 5
  | 2 => 507
  | 3 => 512
  | 4 => 512
  | _ => 0
def fd : Nat → List UInt8
  | 1 => hello
  | _ => []
theorem zeros_drop (a b : Nat) : (zerosL (a + b)).drop a = zerosL b := by simp [zerosL]
theorem zeros_take (k n : Nat) (h : k ≤ n) : (zerosL n).take k = zerosL k := by simp [zerosL, List.take_replicate, Nat.min_eq_left h]
theorem heads_zero (r : TX.Rd) (n : Nat) (hh : r.hd = []) (hn : 512 ≤ n) : TX.headsF r (zerosL n) = ⟨512, [], 0, { r with hd := [], en := r.en + 1 }⟩ := by
  unfold TX.headsF
  have e1 : min (zerosL n).length (512 - r.hd.length) = 512 := by rw [zerosL_len, hh]; simp; omega
  have e2 : r.hd ++ (zerosL n).take 512 = TX.zeros 512 := by
    rw [hh, zeros_take 512 n hn, List.nil_append]; rfl
  simp only [e1, e2, TX.parse_zeros, TX.zeros_len]
  rw [if_neg (by omega)]
  simp
theorem fstep0 : TX.writeF (fr 0) (fs 0) = ⟨512, [], 0, fr 1⟩ := by
  have h := wf_head (fr 0) (fs 0) rfl (by simp [TX.doneB, fr, TX.rd0, fs, hello]) (by simp [fr, TX.rd0]) (by simp [fr, TX.rd0])
  have h2 : TX.headsF (fr 0) (fs 0) = ⟨512, [], 0, fr 1⟩ := by
    unfold TX.headsF
    have e1 : min (fs 0).length (512 - (fr 0).hd.length) = 512 := by simp [fs, fr, TX.rd0, fh_len]
    have e2 : (fr 0).hd ++ (fs 0).take 512 = fh := by simp only [fs, fr, TX.rd0, List.nil_append]; exact List.take_left' fh_len
    simp only [e1, e2, fh_parse, fh_len]
    rw [if_neg (by omega)]
    simp [fr, TX.rd0, TX.fillOf]
  rw [h, h2]; rfl
theorem fstep1 : TX.writeF (fr 1) (fs 1) = ⟨5, hello, 0, fr 2⟩ := by
  rw [wf_data (fr 1) (fs 1) rfl (by simp [TX.doneB, fr, fs, hello]) (by simp [fr]) 5 (by simp [fs, fr, hello])]
  rfl
theorem zerosB_zeros (n : Nat) : TX.zerosB (zerosL n) = true := by simp [TX.zerosB, zerosL]
theorem fstep2 : TX.writeF (fr 2) (fs 2) = ⟨507, [], 0, fr 3⟩ := by
  rw [wf_yes (fr 2) (fs 2) rfl (by simp [TX.doneB, fr, fs, zerosL]) (by simp [fr]) (by simp [fr]) 507 (by simp [fs, fr, zerosL_len]) (by simp only [fs]; rw [zeros_take _ _ (by omega), zerosB_zeros])]
  rfl
theorem fstep3 : TX.writeF (fr 3) (fs 3) = ⟨512, [], 0, fr 4⟩ := by
  rw [wf_head (fr 3) (fs 3) rfl (by simp [TX.doneB, fr, fs, zerosL]) (by simp [fr]) (by simp [fr])]
  simp only [fs]
  rw [heads_zero _ _ rfl (by omega)]; rfl
theorem fstep4 : TX.writeF (fr 4) (fs 4) = ⟨512, [], 0, fr 5⟩ := by
  rw [wf_head (fr 4) (fs 4) rfl (by simp [TX.doneB, fr, fs, zerosL]) (by simp [fr]) (by simp [fr])]
  simp only [fs]
  rw [heads_zero _ _ rfl (by omega)]; rfl
theorem fstep5 : TX.writeF (fr 5) (fs 5) = ⟨0, [], 0, fr 6⟩ := by
  rw [wf_none (fr 5) (fs 5) rfl (.inr rfl)]; rfl
theorem fstep (i : Nat) (h : i < 6) : TX.writeF (fr i) (fs i) = ⟨fn i, fd i, 0, fr (i + 1)⟩ ∧ (fs i).drop (fn i) = fs (i + 1) ∧ fn i ≤ (fs i).length ∧ (fs i).length ≤ 4000 ∧ TX.OkR (fr i) ∧ ((fd i == hello) = ((i : Int) == 1)) := by
  have h6 : i = 0 ∨ i = 1 ∨ i = 2 ∨ i = 3 ∨ i = 4 ∨ i = 5 := by omega
  rcases h6 with rfl | rfl | rfl | rfl | rfl | rfl
  · refine ⟨fstep0, List.drop_left' fh_len, ?_, ?_, TX.OkR.zero, by decide⟩ <;> simp [fn, fs, fh_len, hello, zerosL_len]
  · refine ⟨fstep1, List.drop_left' rfl, ?_, ?_, ⟨by simp [fr], by simp [fr], by simp [fr], by simp [fr], by simp [fr], by simp [fr]⟩, by decide⟩ <;> simp [fn, fs, hello, zerosL_len]
  · refine ⟨fstep2, zeros_drop 507 1024, ?_, ?_, ⟨by simp [fr], by simp [fr], by simp [fr], by simp [fr], by simp [fr], by simp [fr]⟩, by decide⟩ <;> simp [fn, fs, zerosL_len]
  · refine ⟨fstep3, zeros_drop 512 512, ?_, ?_, ⟨by simp [fr], by simp [fr], by simp [fr], by simp [fr], by simp [fr], by simp [fr]⟩, by decide⟩ <;> simp [fn, fs, zerosL_len]
  · refine ⟨fstep4, zeros_drop 512 0, ?_, ?_, ⟨by simp [fr], by simp [fr], by simp [fr], by simp [fr], by simp [fr], by simp [fr]⟩, by decide⟩ <;> simp [fn, fs, zerosL_len]
  · refine ⟨fstep5, rfl, ?_, ?_, ⟨by simp [fr], by simp [fr], by simp [fr], by simp [fr], by simp [fr], by simp [fr]⟩, by decide⟩ <;> simp [fn, fs]
def wantV : List Int := [512, 5, 507, 512, 512, 0]
theorem want_at {w : World} {g : Nat} (h : w.heap[g]? = some (.cells #[I 512, I 5, I 507, I 512, I 512, I 0] 3 (0, 0))) (i : Nat) (hi : i < 6) : w.cell? ⟨g, i, none⟩ = some (I (fn i)) := by
  rw [cell_at h]
  have h6 : i = 0 ∨ i = 1 ∨ i = 2 ∨ i = 3 ∨ i = 4 ∨ i = 5 := by omega
  rcases h6 with rfl | rfl | rfl | rfl | rfl | rfl <;> rfl
theorem fixed_any (w : World) (hM : ML w) : Calls Tryd.prog 19 #[] w fun e w' => e = .returned (.bool true) ∧ Kept [] w w' := by
  have HM := Lib.hid hM
  clear hM
  go_enter Tryd.func19, Tryd.ntmps19
  go_wp2_with (fail)
  refine (head_any [97] 5 w).mono ?_
  rw [fh_head]
  rintro e w1 ⟨rfl, k1⟩
  have H1 := Lib.hid k1
  clear k1
  have hm : (Instr.makeSlice 31 (.int .i64 1531) (.int .i64 1531)).run Tryd.prog w1 = .ok (.slice (some ⟨w1.heap.size, 0, none⟩) 1531 1531) (w1.alloc (.cells (Lib.byteCells (zerosL 1531)).toArray 5)) := make_bytes w1 1531 (by omega)
  have hrow : Row (w1.alloc (.cells (Lib.byteCells (zerosL 1531)).toArray 5)) w1.heap.size (zerosL 1531) := heap_new w1 _
  obtain ⟨W, hW⟩ : ∃ W, w1.alloc (.cells (Lib.byteCells (zerosL 1531)).toArray 5) = W := ⟨_, rfl⟩
  rw [hW] at hm hrow
  have H2 := Lib.hid (H1.out.trans' (hW ▸ (Kept.refl [] w1).alloc _ : Kept [] w1 W))
  have hcv := conv_row hrow 1531
  rw [zerosL_len] at hcv
  obtain ⟨Z, hZ⟩ : ∃ Z, zerosL 1531 = Z := ⟨_, rfl⟩
  rw [hZ] at hcv
  obtain ⟨h, hh⟩ : ∃ h, fh = h := ⟨_, rfl⟩
  rw [hh]
  have hhl : h.length = 512 := by rw [← hh]; exact fh_len
  have hZl : Z.length = 1531 := by rw [← hZ]; exact zerosL_len _
  have HZ := Lib.hid (And.intro hh hZ)
  clear hW hrow hh hZ
  go_wp2_with (fail)
  refine (new_any W).mono ?_
  rintro e w2 ⟨b, rfl, r2, k2, hb⟩
  have H3 := Lib.hid (And.intro r2 (And.intro (H2.out.trans' k2) (Nat.le_trans H2.out.size hb)))
  clear r2 k2 hb hm hcv
  go_upto_region 8 with (fail)
  clear hhl hZl
  go_loopw [3, 6] (fun sv iv wr => ∃ i : Nat, i ≤ 6 ∧ iv = I i ∧ sv = S (fs i) ∧ RdAt wr b (fr i) ∧ wr.heap[w2.heap.size]? = some (.cells #[I 512, I 5, I 507, I 512, I 512, I 0] 3 (0, 0)) ∧ Kept [] w wr) (fun _ i _ => 6 - (intOf i).toNat)
  case atStart =>
    refine ⟨0, by omega, rfl, ?_, H3.out.1.kept ((Kept.refl [] w2).alloc _) (by simp), heap_new w2 _, H3.out.2.1.alloc _⟩
    show S (h ++ (hello ++ Z)) = S (fh ++ (hello ++ zerosL 1531))
    rw [HZ.out.1, HZ.out.2]
  case round =>
    obtain ⟨i, hi, rfl, rfl, rr, hwb, kk⟩ := hrel
    have HK := Lib.hid (And.intro rr (And.intro hwb kk))
    clear rr hwb kk
    rcases Nat.eq_or_lt_of_le hi with rfl | hlt
    · go_wp2_with (fail)
      refine (file_any b (fr 6) wr HK.out.1).mono ?_
      rintro e w4 ⟨rfl, k4⟩
      have H4 := Lib.hid (And.intro (HK.out.1.kept k4 (by simp)) (HK.out.2.2.trans' k4))
      clear k4
      go_wp2_with (fail)
      refine (parse_any h w4 (HM.out.kept H4.out.2)).mono ?_
      rw [show TX.parseL h = ⟨[97], 5, false, 0⟩ from by rw [← HZ.out.1]; exact fh_parse]
      rintro e w5 ⟨rfl, k5⟩
      have H5 := Lib.hid (And.intro (H4.out.1.kept k5 (by simp)) (H4.out.2.trans' k5))
      clear k5
      go_wp2_with (fail)
      refine (head_any [] 0 w5).mono ?_
      rw [fh_none]
      rintro e w6 ⟨rfl, k6⟩
      have H6 := Lib.hid (And.intro (H5.out.1.kept k6 (by simp)) (H5.out.2.trans' k6))
      clear k6
      go_wp2_with (fail)
      refine (done_any b (fr 6) w6 H6.out.1).mono ?_
      rintro e w7 ⟨rfl, rfl⟩
      go_wp2_with (fail)
      refine (many_any b (fr 6) w6 H6.out.1).mono ?_
      rintro e w7 ⟨rfl, rfl⟩
      simp only [fr]
      go_wp2
      go_ret
      exact ⟨rfl, H6.out.2⟩
    · obtain ⟨hst, hdr, hle, h4k, hok, hdd⟩ := fstep i hlt
      have hlt' : (i : Int) < 6 := by omega
      have HS := Lib.hid (And.intro hst (And.intro hdr (And.intro h4k hok)))
      have hle' : (fn i : Int) ≤ ((fs i).length : Int) := by omega
      clear hst hdr h4k hok
      go_wp2_with (fail)
      refine (write_any b (fr i) (fs i) wr HK.out.1 HS.out.2.2.2 (HM.out.kept HK.out.2.2) (by have := HS.out.2.2.1; omega)).mono ?_
      rw [HS.out.1]
      rintro e w4 ⟨rfl, r4, k4⟩
      dsimp only [VW] at r4 ⊢
      have hb : w2.heap.size ≠ b := fun e => by have h1 := H3.out.1.lt; omega
      have H4 := Lib.hid (And.intro r4 (And.intro (k4.at HK.out.2.1 (by simpa using hb)) (HK.out.2.2.new1 k4 H3.out.2.2)))
      clear r4 k4 hb
      have hwc := want_at H4.out.2.1 i hlt
      obtain ⟨v, hv⟩ : ∃ v : Bool, ((i : Int) == 1) = v := ⟨_, rfl⟩
      rw [hv] at hdd
      have hdd2 : (fd i == [104, 101, 108, 108, 111]) = v := hdd
      clear hdd hle
      go_wp2
      go_roundw
      case rel => exact ⟨i + 1, by omega, by go_num, by rw [HS.out.2.1], H4.out.1, H4.out.2.1, H4.out.2.2⟩
      case measure => (simp [intOf]; omega)
end Go.Proofs.YtgdioalhlmnhhaaDoor
