/- Walks and lemmas on the program of this seat, used by its statements; each theorem bears its own conditions. -/
import Derived.Test.YteplbljjlbdhaaaGreatDoorZ36
namespace Go.Proofs.YteplbljjlbdhaaaGreatDoor
open Go.RowKit
set_option linter.unusedVariables false
set_option linter.unusedSimpArgs false
set_option linter.unusedSectionVars false
set_option maxHeartbeats 16000000
set_option maxRecDepth 100000
theorem cut_full (D : List UInt8) (sz j : Nat) (hs : sz ≤ D.length) (h : 128 * (j + 1) ≤ sz) : chunkO (D.take sz) j = chunkO D j := by
 have hl : (D.take sz).length = sz := by rw [List.length_take]; omega
 unfold chunkO
 rw [if_pos (by omega), if_pos (by omega)]
 congr 1
 apply List.ext_getElem?
 intro k
 rw [chunk_at, chunk_at]
 by_cases hk : k < 128
 ·rw [if_pos hk, if_pos hk, List.getElem?_take_of_lt (by omega)]
 ·rw [if_neg hk, if_neg hk]
theorem cut_part (D : List UInt8) (sz j : Nat) (hs : sz ≤ D.length) (h1 : 128 * j < sz) (h2 : sz ≤ 128 * (j + 1)) : chunkO (D.take sz) j = some ((chunkF D j).take (sz - 128 * j)) := by
 have hl : (D.take sz).length = sz := by rw [List.length_take]; omega
 unfold chunkO
 rw [if_pos (by omega)]
 congr 1
 apply List.ext_getElem?
 intro k
 rw [chunk_at]
 by_cases hk : k < sz - 128 * j
 ·rw [if_pos (by omega), List.getElem?_take_of_lt (by omega), List.getElem?_take_of_lt hk, chunk_at, if_pos (by omega)]
 ·rw [List.getElem?_eq_none (l := (chunkF D j).take (sz - 128 * j)) (by rw [List.length_take]; omega)]
  by_cases hk2 : k < 128
  ·rw [if_pos hk2, List.getElem?_eq_none (by omega)]
  ·rw [if_neg hk2]
theorem cut_none (D : List UInt8) (sz j : Nat) (h : sz ≤ 128 * j) : chunkO (D.take sz) j = none := by
 unfold chunkO
 rw [if_neg (by rw [List.length_take]; omega)]
def cutO (D : List UInt8) (sz i j : Nat) : Option (List UInt8) := if j < i then chunkO (D.take sz) j else chunkO D j
theorem cut_start (D : List UInt8) (sz j : Nat) (hs : sz ≤ D.length) : cutO D sz (sz / 128) j = chunkO D j := by
 unfold cutO
 by_cases h : j < sz / 128
 ·rw [if_pos h, cut_full D sz j hs (by omega)]
 ·rw [if_neg h]
theorem cut_end (D : List UInt8) (sz i j : Nat) (hs : sz ≤ D.length) (h : D.length ≤ 128 * i) : cutO D sz i j = chunkO (D.take sz) j := by
 unfold cutO
 by_cases hj : j < i
 ·rw [if_pos hj]
 ·rw [if_neg hj, cut_none D sz j (by omega)]
  unfold chunkO
  rw [if_neg (by omega)]
theorem cut_next (D : List UInt8) (sz i j : Nat) (hj : j ≠ i) : cutO D sz (i + 1) j = cutO D sz i j := by
 unfold cutO
 by_cases h : j < i
 ·rw [if_pos h, if_pos (by omega)]
 ·rw [if_neg h, if_neg (by omega)]
def truncF (n given : Nat) (E : List Nd) (s : List UInt8) (sz : Int) : Int × Nat × List Nd :=
 if (fileF E s).1 ≠ 0 then ((fileF E s).1, given, E) else if sz < 0 ∨ ((fileF E s).2.data.length : Int) < sz then (165, given, E)
 else tryF n given E given (setE E ⟨(fileF E s).2.path, (fileF E s).2.num, (fileF E s).2.dir, (fileF E s).2.data.take sz.toNat⟩)
def cutK (given : Nat) (E : List Nd) (q : Nat) (f : Nat → Option (List UInt8)) (k : Int) : Option (List UInt8) := if 64 * (q : Int) < k ∧ k < 64 * (q : Int) + 64 then f (k.toNat % 64 - 1) else objF given E k
theorem cutK_chunk (given : Nat) (E : List Nd) (q : Nat) (D : List UInt8) (k : Int) : cutK given E q (chunkO D) k = chunkK given E q D k := rfl
theorem cutK_ext {given : Nat} {E : List Nd} {q : Nat} {f g : Nat → Option (List UInt8)} (h : ∀ j, f j = g j) (k : Int) : cutK given E q f k = cutK given E q g k := by unfold cutK; rw [h]
theorem cutK_put {given : Nat} {E : List Nd} {M : CM} (hM : SortedA M) {q : Nat} {f g : Nat → Option (List UInt8)} {i : Nat} {c : List UInt8} (hi : i < 63) (hq : 2 ≤ q) (h : ∀ k, behS M (objF given E) k = cutK given E q f k) (hc : g i = some c) (hs : ∀ j, j ≠ i → g j = f j) (k : Int) :
  behS (putS M ((64 * q + 1 + i : Nat) : Int) c) (objF given E) k = cutK given E q g k := by
 rw [behS_put hM]
 by_cases hk : k = ((64 * q + 1 + i : Nat) : Int)
 ·rw [if_pos hk, if_neg (by omega), hk]
  unfold cutK
  rw [if_pos (by omega), show ((64 * q + 1 + i : Nat) : Int).toNat % 64 - 1 = i by omega, hc]
 ·rw [if_neg hk, h k]
  unfold cutK
  by_cases hr : 64 * (q : Int) < k ∧ k < 64 * (q : Int) + 64
  ·rw [if_pos hr, if_pos hr, hs _ (by omega)]
  ·rw [if_neg hr, if_neg hr]
theorem cutK_drop {given : Nat} {E : List Nd} {M : CM} (hM : SortedA M) {q : Nat} {f g : Nat → Option (List UInt8)} {i : Nat} (hi : i < 63) (hq : 2 ≤ q) (h : ∀ k, behS M (objF given E) k = cutK given E q f k) (hc : g i = none) (hs : ∀ j, j ≠ i → g j = f j) (k : Int) :
  behS (dropS M ((64 * q + 1 + i : Nat) : Int)) (objF given E) k = cutK given E q g k := by
 rw [behS_drop hM]
 by_cases hk : k = ((64 * q + 1 + i : Nat) : Int)
 ·rw [if_pos hk, hk]
  unfold cutK
  rw [if_pos (by omega), show ((64 * q + 1 + i : Nat) : Int).toNat % 64 - 1 = i by omega, hc]
 ·rw [if_neg hk, h k]
  unfold cutK
  by_cases hr : 64 * (q : Int) < k ∧ k < 64 * (q : Int) + 64
  ·rw [if_pos hr, if_pos hr, hs _ (by omega)]
  ·rw [if_neg hr, if_neg hr]
theorem ftrunc_any (w : World) (ff fb sb n : Nat) (V : OM) (d : Nat) (T : List Nat) (z : Bool) (given : Nat) (E : List Nd) (U : List Nat) (h : CH w ff fb sb n V d T z given E U) (hd5 : d ≤ 500000000) (s : List UInt8) (hs : s.length < 4294967281) (at0 : Int) (ha : I64 at0) :
  Calls Tryz.prog 17 #[Ptr ff, S s, I at0] w (OpP w fb sb n V d T z given E (truncF n given E s at0)) := by
 have HC := Lib.hid (changes_any w ff fb sb n V d T z given E U h hd5 s hs)
 have H := Lib.hid h
 have hmm := @run_makeMap Tryz.prog
 obtain ⟨R, hR⟩ : ∃ R, truncF n given E s at0 = R := ⟨_, rfl⟩
 have HR := Lib.hid hR
 rw [hR]
 obtain ⟨ha1, ha2⟩ := ha
 clear h hR
 go_enter Tryz.func17, Tryz.ntmps17
 go_wp2_with (fail)
 refine HC.out.mono ?_
 rintro e w1 (⟨hp, rfl, k1⟩ | ⟨p, hp, ⟨rfl, T1, hch, hk1, hT1⟩ | ⟨rfl, hz, T1, hpf, hk1, hT1⟩⟩)
 ·have HE : Hid (R = (160, given, E)) := Lib.hid (by rw [← HR.out]; unfold truncF fileF; rw [hp]; rfl)
  have K1 := Lib.hid k1
  clear hp k1
  go_wp2_with (fail)
  go_ret
  rw [HE.out]
  exact OpP.no (H.out.st.same K1.out) (by omega) H.out.sim (K1.out.mono (by simp)) (fun x hx => .inl hx) 160
 ·have H1 := Lib.hid (And.intro hch (And.intro hk1 hT1))
  have HNO : Hid (∀ (W : World) (r : Int), Kept [] w1 W → OpP w fb sb n V d T z given E (r, given, E) (.returned (I r)) W) := Lib.hid (fun W r k => OpP.no (H1.out.1.st.same k) (by omega) H.out.sim (H1.out.2.1.trans k (by simp)) H1.out.2.2 r)
  have HF := Lib.hid (ffile_any w1 ff sb V given E hch.fr hch.tabs.1 s hs)
  obtain ⟨x, hx⟩ : ∃ x, (fileF E s).2 = x := ⟨_, rfl⟩
  obtain ⟨r, hr⟩ : ∃ r, (fileF E s).1 = r := ⟨_, rfl⟩
  have HX := Lib.hid (And.intro hx hr)
  rw [hx, hr] at HF
  obtain ⟨L, hL⟩ : ∃ L, x.data.length = L := ⟨_, rfl⟩
  rw [hL] at HF
  obtain ⟨q, hq⟩ : ∃ q, x.num = q := ⟨_, rfl⟩
  rw [hq] at HF
  have HLL := Lib.hid (And.intro hL hq)
  have HRR : Hid (R = if r ≠ 0 then (r, given, E) else if at0 < 0 ∨ (L : Int) < at0 then (165, given, E) else tryF n given E given (setE E ⟨x.path, x.num, x.dir, x.data.take at0.toNat⟩)) := Lib.hid (by rw [← HR.out]; unfold truncF; rw [hx, hr, hL])
  clear hp hch hk1 hT1 hx hr hL hq
  go_wp2_with (fail)
  refine HF.out.mono ?_
  rintro e w2 ⟨rfl, k2⟩
  have n1 := heap_new w2 (Obj.cells #[I 0] 78)
  have hk2 := k2.alloc (Obj.cells #[I 0] 78)
  obtain ⟨W2, hW2⟩ : ∃ W2, w2.alloc (Obj.cells #[I 0] 78) = W2 := ⟨_, rfl⟩
  obtain ⟨b, hb⟩ : ∃ b, w2.heap.size = b := ⟨_, rfl⟩
  have hbw : w1.heap.size ≤ b := by rw [← hb]; exact k2.size
  rw [hW2] at n1 hk2
  rw [hb] at n1
  have a2 := free_at n1
  have a1 := cell_at n1 0
  simp only [List.getElem?_toArray, List.getElem?_cons_zero] at a1
  obtain ⟨W3, hW3⟩ : ∃ W3, W2.setCell ⟨b, 0, none⟩ (I L) = W3 := ⟨_, rfl⟩
  have b1 : W3.cell? ⟨b, 0, none⟩ = some (I L) := by rw [← hW3, cell_at (heap_setCell_at n1 0 _)]; rfl
  have hk3 : Kept [] w1 W3 := by rw [← hW3]; exact hk2.setCell (.inr hbw) _
  have HK := Lib.hid hk3
  have HB1 := Lib.hid b1
  clear n1 hk2 k2 hbw hk3
  by_cases hr0 : r = 0
  case neg =>
   have hrb : (r != 0) = true := by simpa using hr0
   have HE : Hid (R = (r, given, E)) := Lib.hid (by rw [HRR.out, if_pos hr0])
   clear hr0 b1
   go_wp2_with (first | (simp only [hW2, hW3]; done) | (simp only [hW2, hW3]))
   go_ret
   rw [HE.out]
   exact HNO.out _ _ HK.out
  case pos =>
  subst hr0
  have HRR2 : Hid (R = if at0 < 0 ∨ (L : Int) < at0 then (165, given, E) else tryF n given E given (setE E ⟨x.path, x.num, x.dir, x.data.take at0.toNat⟩)) := Lib.hid (by rw [HRR.out, if_neg (by simp)])
  by_cases c1 : at0 < 0
  ·have HE : Hid (R = (165, given, E)) := Lib.hid (by rw [HRR2.out, if_pos (.inl c1)])
   go_wp2_with (first | (simp only [hW2, hW3]; done) | (simp only [hW2, hW3]))
   go_ret
   rw [HE.out]
   exact HNO.out _ _ HK.out
  have c1b : decide (at0 < 0) = false := decide_eq_false c1
  by_cases c2 : (L : Int) < at0
  ·have HE : Hid (R = (165, given, E)) := Lib.hid (by rw [HRR2.out, if_pos (.inr c2)])
   go_wp2_with (first | (simp only [hW2, hW3]; done) | (simp only [hW2, hW3]))
   go_ret
   rw [HE.out]
   exact HNO.out _ _ HK.out
  obtain ⟨A, rfl⟩ : ∃ A : Nat, at0 = A := ⟨at0.toNat, by omega⟩
  obtain ⟨p', _, _, hxd, hxe, hxE⟩ := file_mem (E := E) (s := s) HX.out.2
  rw [HX.out.1] at hxe hxE
  have hxdir : x.dir = false := by rw [← isDirP_of H.out.wf hxe]; exact hxd
  have hL4 : L ≤ 4096 := by rw [← HLL.out.1]; exact (H.out.wf.data x hxE).1
  obtain ⟨D, hD⟩ : ∃ D, x.data = D := ⟨_, rfl⟩
  have hDL : D.length = L := by rw [← hD]; exact HLL.out.1
  have hAL : A ≤ L := by omega
  have HE : Hid (R = tryF n given E given (setE E ⟨x.path, x.num, x.dir, D.take A⟩)) := Lib.hid (by rw [HRR2.out, if_neg (by omega), hD]; rfl)
  have HCH := Lib.hid (fun W (k : Kept [] w1 W) i hi => fchunk_any W ff sb V given E (H1.out.1.fr.same k) x hxE i hi)
  rw [hD, HLL.out.2] at HCH
  have hxn := H.out.wf.num x hxE
  rw [HLL.out.2] at hxn
  have hgv := H.out.gv
  have hqI : (q : Int) ≤ 16777216 := by omega
  obtain ⟨k0, hk0⟩ : ∃ k0, 64 * q = k0 := ⟨_, rfl⟩
  have em0 : (64 : Int) * (q : Int) = (k0 : Int) := by omega
  have hk0I : (k0 : Int) ≤ 1073741824 := by omega
  have hLI : (L : Int) ≤ 4096 := by omega
  have hAI : (A : Int) ≤ 4096 := by omega
  have c2n : decide (L < A) = false := decide_eq_false (by omega)
  have c2m : ¬ L < A := by omega
  have HQ : Hid (∀ k, behS [] (objF given E) k = cutK given E q (cutO D A (A / 128)) k) := Lib.hid (fun k => by
   rw [cutK_ext (fun j => cut_start D A j (by omega)), cutK_chunk, behS_nil, ← hD, ← HLL.out.2]
   exact (chunkK_self H.out.wf hxE k).symm)
  have HD := Lib.hid (And.intro hxE (And.intro hxdir (And.intro hD (And.intro hDL (And.intro hAL (And.intro hxn hk0))))))
  obtain ⟨mb, hmb⟩ : ∃ mb, W3.heap.size = mb := ⟨_, rfl⟩
  have HS0 : Hid (SetAt (W3.alloc (.map #[] 0)) mb []) := Lib.hid (by rw [← hmb]; exact amap_made W3)
  have HMB := Lib.hid hmb
  have HK0 : Hid (Kept [] W3 (W3.alloc (.map #[] 0))) := Lib.hid ((Kept.refl [] W3).alloc _)
  obtain ⟨i0, hi0⟩ : ∃ i0, A / 128 = i0 := ⟨_, rfl⟩
  have hq1 : (A : Int).tdiv 128 = i0 := by rw [Int.tdiv_eq_ediv_of_nonneg (by omega)]; omega
  have hq2 : (A : Int) / 128 = i0 := by omega
  rw [hi0] at HQ
  clear hxd hxe hxE hxdir hD hDL hxn hk0 hL4 hgv c1 c2
  go_wp2_with (first | (simp only [hW2, hW3]; done) | (simp only [hW2, hW3]))
  go_loopw [12] (fun v12 wr => ∃ (i : Nat) (M : CM), i0 ≤ i ∧ i ≤ 32 ∧ v12 = I i ∧ SetAt wr mb M ∧ SetOK M (if i = i0 then 0 else 130 + 5 * (i - i0)) ∧ (∀ k, behS M (objF given E) k = cutK given E q (cutO D A i) k) ∧ Kept [] W3 wr) (fun v12 _ => 33 - (intOf v12).toNat)
  case atStart => exact ⟨i0, [], by omega, by omega, rfl, HS0.out, by rw [if_pos rfl]; exact SetOK.nil, HQ.out, HK0.out⟩
  case round =>
   obtain ⟨i, M, hi1, hi2, rfl, hS, hOK, hbeh, kr⟩ := hrel
   have d1 := kr.cellOf HB1.out
   have HJ := Lib.hid (And.intro hS (And.intro hOK (And.intro hbeh kr)))
   have hiI : (i : Int) ≤ 32 := by omega
   clear hS hOK hbeh kr
   by_cases hlt : i * 128 < L
   case neg =>
    have hltI : ¬ (i : Int) * 128 < L := by omega
    obtain ⟨hxE, hxdir, hD, hDL, hAL2, hxn, hk0⟩ := HD.out
    have hLx : (D.take A).length = A := by rw [List.length_take]; omega
    have HROW := Lib.hid (fun W => frow_any W A (by omega))
    obtain ⟨row, hrow⟩ : ∃ row, rowF A = row := ⟨_, rfl⟩
    rw [hrow] at HROW
    have hrl : row.length = 3 := by rw [← hrow]; simp [rowF, putN_len]
    have HFIN : Hid (∀ W (_ : SetAt W mb (putS M (k0 : Int) row)) (_ : Kept [] W3 W), Calls Tryz.prog 49 #[Ptr ff, .map (some mb)] W (OpP w fb sb n V d T z given E R)) := Lib.hid (fun W hS kW => by
     obtain ⟨hSx, hOK, hbeh, kr⟩ := HJ.out
     have hOK2 : SetOK M 300 := ⟨hOK.srt, hOK.ok, Nat.le_trans hOK.size (by split <;> omega)⟩
     have hOK3 := hOK2.put (k0 : Int) row (by omega) (by omega) (by omega)
     rw [HE.out]
     have hkw : Kept [] w1 W := HK.out.trans' kW
     have hwf := wf_set H.out.wf hxE (x' := ⟨x.path, x.num, x.dir, D.take A⟩) rfl rfl rfl (by show (D.take A).length ≤ 4096; omega) (by intro h; rw [show (⟨x.path, x.num, x.dir, D.take A⟩ : Nd).dir = x.dir from rfl, hxdir] at h; cases h)
     refine does_op (V0 := V) (H1.out.1.same hkw) mb _ hS 310 ⟨hOK3.srt, hOK3.ok, Nat.le_trans hOK3.size (by omega)⟩ (by omega) hwf (fun k => ?_) (Nat.le_refl _) (H1.out.2.1.trans hkw (by simp)) (fun x hx => H1.out.2.2 x hx) (Nat.le_trans H1.out.2.1.size hkw.size)
     have hq2' := HLL.out.2
     have := row_put H.out.wf hxE hxdir hOK.srt (D' := D.take A) (fun k => by rw [hq2', hbeh k, cutK_ext (fun j => cut_end D A i j (by omega) (by omega))]; rfl) k
     have e : ((64 * x.num : Nat) : Int) = (k0 : Int) := by rw [hq2', hk0]
     rw [hLx, hrow, e] at this
     exact this)
    have HN := Lib.hid (And.intro hrow hrl)
    have hr4 : row.length ≤ 1000 := by omega
    clear hxE hxdir hD hDL hxn hk0 hLx hrow hrl
    go_wp2_with (fail)
    refine (HROW.out _).mono ?_
    rintro e w5 ⟨rfl, k5⟩
    have K5 := Lib.hid k5
    clear k5
    go_wp2_with (fail)
    refine (sput_any w5 mb M (HJ.out.1.same K5.out) (by have := HJ.out.2.1.len; split at this <;> omega) (k0 : Int) ⟨by omega, by omega⟩ row hr4).mono ?_
    rintro e w6 ⟨rfl, s6, k6⟩
    have HFN := Lib.hid (HFIN.out w6 s6 ((HJ.out.2.2.2.trans' K5.out).new k6 (by intro x hx; simp at hx; have := HMB.out; omega)))
    clear s6 k6
    go_wp2_with (fail)
    refine HFN.out.mono ?_
    rintro e w7 ⟨r, T', rfl, hP2⟩
    have HPP2 := Lib.hid hP2
    clear hP2
    go_wp2_with (fail)
    go_ret
    exact ⟨r, T', rfl, HPP2.out⟩
   case pos =>
    have hltI : (i : Int) * 128 < L := by omega
    obtain ⟨hxE, hxdir, hD, hDL, hAL2, hxn, hk0⟩ := HD.out
    obtain ⟨kk, hkk⟩ : ∃ kk, 64 * q + 1 + i = kk := ⟨_, rfl⟩
    have em1 : (k0 : Int) + 1 + (i : Int) = (kk : Int) := by omega
    have hkkI : (kk : Int) ≤ 1073742000 := by omega
    have HC2 := Lib.hid (fun W (k : Kept [] wr W) => HCH.out W ((HK.out.trans' HJ.out.2.2.2).trans' k) i (by omega))
    have hol := chunk_len D i
    by_cases hn : 128 * i < A
    case neg =>
     have hn0 : ¬ (0 : Int) < (A : Int) - (i : Int) * 128 := by omega
     have HSP := Lib.hid (sdrop_any wr mb M HJ.out.1 (by have := HJ.out.2.1.len; split at this <;> omega) (kk : Int) ⟨by omega, by omega⟩)
     have HM := Lib.hid (And.intro hkk (And.intro hDL (And.intro hn (And.intro hxn hlt))))
     clear hxE hxdir hD hDL hxn hk0 hkk hol hn
     go_wp2_with (fail)
     refine HSP.out.mono ?_
     rintro e w5 ⟨rfl, s5, k5⟩
     have K5 := Lib.hid (And.intro s5 k5)
     clear s5 k5
     go_wp2_with (fail)
     go_roundw
     case rel =>
      obtain ⟨hkk, hDL, hn, hxn, hlt⟩ := HM.out
      obtain ⟨hSx, hOK, hbeh, kr⟩ := HJ.out
      have hdr := hOK.drop (kk : Int) (by omega) (by omega)
      refine ⟨i + 1, dropS M (kk : Int), by omega, by omega, by go_num, K5.out.1, ⟨hdr.srt, hdr.ok, Nat.le_trans hdr.size ?_⟩, fun k => ?_, kr.new K5.out.2 (by intro x hx; simp at hx; have := HMB.out; omega)⟩
      ·rw [if_neg (by omega : ¬ i + 1 = i0)]
       split <;> omega
      ·have := cutK_drop (given := given) (E := E) hOK.srt (q := q) (i := i) (by omega) hxn.1 hbeh (g := cutO D A (i + 1)) (by unfold cutO; rw [if_pos (by omega), cut_none D A i (by omega)]) (fun j hj => cut_next D A i j hj) k
       rw [hkk] at this
       exact this
     case measure => simp [intOf]; omega
    case pos =>
     have hn0 : (0 : Int) < (A : Int) - (i : Int) * 128 := by omega
     obtain ⟨C, hC⟩ : ∃ C, chunkF D i = C := ⟨_, rfl⟩
     rw [hC] at HC2 hol
     obtain ⟨k2, hk2⟩ : ∃ k2, min (A - 128 * i) C.length = k2 := ⟨_, rfl⟩
     have hmin : min ((A : Int) - (i : Int) * 128) (C.length : Int) = (k2 : Int) := by omega
     have hk2C : (k2 : Int) ≤ C.length := by omega
     have hCI : (C.length : Int) ≤ 128 := by omega
     obtain ⟨NC, hNC⟩ : ∃ NC, C.take k2 = NC := ⟨_, rfl⟩
     have hNCl : NC.length ≤ 128 := by rw [← hNC, List.length_take]; omega
     have hNC2 : C.take (A - 128 * i) = NC := by
      rw [← hNC, ← hk2]
      by_cases hc : A - 128 * i ≤ C.length
      ·rw [Nat.min_eq_left hc]
      ·rw [Nat.min_eq_right (by omega), List.take_of_length_le (by omega), List.take_of_length_le (Nat.le_refl _)]
     have HSP := Lib.hid (fun W (k : Kept [] wr W) => sput_any W mb M (HJ.out.1.same k) (by have := HJ.out.2.1.len; split at this <;> omega) (kk : Int) ⟨by omega, by omega⟩ NC (by omega))
     have HM := Lib.hid (And.intro hkk (And.intro hDL (And.intro hn (And.intro hxn (And.intro hlt (And.intro hC (And.intro hNC2 hNCl)))))))
     clear hxE hxdir hD hDL hxn hk0 hkk hol hn hC hk2 hNC2
     go_wp2_with (fail)
     refine (HC2.out _ (Kept.refl _ _)).mono ?_
     rintro e w4 ⟨rfl, k4⟩
     have K4 := Lib.hid k4
     clear k4
     go_wp2_with (fail)
     refine (HC2.out _ K4.out).mono ?_
     rintro e w5 ⟨rfl, k5⟩
     have K5 := Lib.hid (K4.out.trans' k5)
     clear k5
     go_wp2_with (fail)
     refine (HSP.out _ K5.out).mono ?_
     rintro e w6 ⟨rfl, s6, k6⟩
     have K6 := Lib.hid (And.intro s6 k6)
     clear s6 k6
     go_wp2_with (fail)
     go_roundw
     case rel =>
      obtain ⟨hkk, hDL, hn, hxn, hlt, hC, hNC2, hNCl⟩ := HM.out
      obtain ⟨hSx, hOK, hbeh, kr⟩ := HJ.out
      have hput := hOK.put (kk : Int) NC (by omega) (by omega) (by omega)
      refine ⟨i + 1, putS M (kk : Int) NC, by omega, by omega, by go_num, K6.out.1, ⟨hput.srt, hput.ok, Nat.le_trans hput.size ?_⟩, fun k => ?_, (kr.trans' K5.out).new K6.out.2 (by intro x hx; simp at hx; have := HMB.out; omega)⟩
      ·rw [if_neg (by omega : ¬ i + 1 = i0)]
       rw [if_pos (by omega : i = i0)]
       omega
      ·have := cutK_put (given := given) (E := E) hOK.srt (q := q) (i := i) (c := NC) (by omega) hxn.1 hbeh (g := cutO D A (i + 1)) (by unfold cutO; rw [if_pos (by omega), cut_part D A i (by omega) hn (by omega), hC, hNC2]) (fun j hj => cut_next D A i j hj) k
       rw [hkk] at this
       exact this
     case measure => simp [intOf]; omega
 ·have HX := Lib.hid (OpP.gone (n := n) (sb := sb) (d := d) H.out.st.sorted H.out.st.stk.small.2.2.1 hz hpf (by omega) H.out.sim hk1 hT1 R)
  clear hp hz hpf hk1 hT1
  go_wp2_with (fail)
  go_ret
  exact HX.out
end Go.Proofs.YteplbljjlbdhaaaGreatDoor
