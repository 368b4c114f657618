/- Walks and lemmas on the program of this seat, used by its statements; each theorem bears its own conditions. -/
import Derived.Test.YteplbljjlbdhaaaGreatDoorZ35
namespace Go.Proofs.YteplbljjlbdhaaaGreatDoor
open Go.RowKit
set_option linter.unusedVariables false
set_option linter.unusedSimpArgs false
set_option linter.unusedSectionVars false
set_option maxHeartbeats 16000000
set_option maxRecDepth 100000
def writeF (n given : Nat) (E : List Nd) (s : List UInt8) (at0 : Int) (t : List UInt8) : Int × Nat × List Nd :=
 if (fileF E s).1 ≠ 0 then ((fileF E s).1, given, E) else if at0 < 0 ∨ ((fileF E s).2.data.length : Int) < at0 ∨ 128 < t.length ∨ 4096 - at0 < (t.length : Int) then (165, given, E)
 else tryF n given E given (setE E ⟨(fileF E s).2.path, (fileF E s).2.num, (fileF E s).2.dir, wrB (fileF E s).2.data at0.toNat t⟩)
def chunkK (given : Nat) (E : List Nd) (q : Nat) (D : List UInt8) (k : Int) : Option (List UInt8) := if 64 * (q : Int) < k ∧ k < 64 * (q : Int) + 64 then chunkO D (k.toNat % 64 - 1) else objF given E k
theorem chunkK_self {given : Nat} {E : List Nd} (h : WF given E) {x : Nd} (hx : x ∈ E) (k : Int) : chunkK given E x.num x.data k = objF given E k := by
 unfold chunkK
 by_cases hk : 64 * (x.num : Int) < k ∧ k < 64 * (x.num : Int) + 64
 ·rw [if_pos hk]
  obtain ⟨r, hr⟩ : ∃ r : Nat, k = ((64 * x.num + r : Nat) : Int) := ⟨(k - 64 * x.num).toNat, by omega⟩
  subst hr
  rw [objF_at (by omega) (h.num x hx).1, byNum_of h.nums hx]
  simp only
  rw [if_neg (by omega), show ((64 * x.num + r : Nat) : Int).toNat % 64 = r by omega]
  rfl
 ·rw [if_neg hk]
theorem wrB_nil (D : List UInt8) (a : Nat) : wrB D a [] = D := by unfold wrB; simp
theorem chunk_put {given : Nat} {E : List Nd} {M : CM} (hM : SortedA M) {q : Nat} {D D' : List UInt8} {i : Nat} (hi : i < 63) (hq : 2 ≤ q) (h : ∀ k, behS M (objF given E) k = chunkK given E q D k) (hne : 128 * i < D'.length) (hs : ∀ j, j ≠ i → chunkO D' j = chunkO D j) (k : Int) :
  behS (putS M ((64 * q + 1 + i : Nat) : Int) (chunkF D' i)) (objF given E) k = chunkK given E q D' k := by
 rw [behS_put hM]
 by_cases hk : k = ((64 * q + 1 + i : Nat) : Int)
 ·rw [if_pos hk, if_neg (by omega), hk]
  unfold chunkK
  rw [if_pos (by omega), show ((64 * q + 1 + i : Nat) : Int).toNat % 64 - 1 = i by omega]
  unfold chunkO
  rw [if_pos hne]
 ·rw [if_neg hk, h k]
  unfold chunkK
  by_cases hr : 64 * (q : Int) < k ∧ k < 64 * (q : Int) + 64
  ·rw [if_pos hr, if_pos hr, hs _ (by omega)]
  ·rw [if_neg hr, if_neg hr]
theorem row_put {given : Nat} {E : List Nd} (h : WF given E) {x : Nd} (hx : x ∈ E) (hxd : x.dir = false) {M : CM} (hM : SortedA M) {D' : List UInt8} (hb : ∀ k, behS M (objF given E) k = chunkK given E x.num D' k) (k : Int) :
  objF given (setE E ⟨x.path, x.num, x.dir, D'⟩) k = behS (putS M ((64 * x.num : Nat) : Int) (rowF D'.length)) (objF given E) k := by
 have hnx := h.num x hx
 rw [obj_set h hx (x' := ⟨x.path, x.num, x.dir, D'⟩) rfl rfl rfl, behS_put hM]
 by_cases hk : k = ((64 * x.num : Nat) : Int)
 ·have h1 : 64 * (x.num : Int) ≤ k ∧ k < 64 * (x.num : Int) + 64 := by omega
  have h2 : k = 64 * (x.num : Int) := by omega
  have h3 : ¬ (((64 * x.num : Nat) : Int) = 64 ∧ (rowF D'.length).length = 1) := by omega
  rw [if_pos hk, if_pos h1, if_pos h2, if_neg h3, hxd]
  rfl
 ·rw [if_neg hk, hb k]
  unfold chunkK chunkO
  by_cases hr : 64 * (x.num : Int) ≤ k ∧ k < 64 * (x.num : Int) + 64
  ·have h2 : ¬ k = 64 * (x.num : Int) := by omega
   have h4 : 64 * (x.num : Int) < k ∧ k < 64 * (x.num : Int) + 64 := by omega
   rw [if_pos hr, if_neg h2, if_pos h4]
  ·have h4 : ¬ (64 * (x.num : Int) < k ∧ k < 64 * (x.num : Int) + 64) := by omega
   rw [if_neg hr, if_neg h4]
theorem fwrite_any (w : World) (ff fb sb n : Nat) (V : OM) (d : Nat) (T : List Nat) (z : Bool) (given : Nat) (E : List Nd) (U : List Nat) (h : CH w ff fb sb n V d T z given E U) (hd5 : d ≤ 500000000) (s : List UInt8) (hs : s.length < 4294967281) (at0 : Int) (ha : I64 at0) (t : List UInt8) (ht : t.length ≤ 4611686018427387904) :
  Calls Tryz.prog 15 #[Ptr ff, S s, I at0, S t] w (OpP w fb sb n V d T z given E (writeF n given E s at0 t)) := by
 have HC := Lib.hid (changes_any w ff fb sb n V d T z given E U h hd5 s hs)
 have H := Lib.hid h
 have hmm := @run_makeMap Tryz.prog
 obtain ⟨R, hR⟩ : ∃ R, writeF n given E s at0 t = R := ⟨_, rfl⟩
 have HR := Lib.hid hR
 rw [hR]
 obtain ⟨ha1, ha2⟩ := ha
 clear h hR
 go_enter Tryz.func15, Tryz.ntmps15
 go_wp2_with (fail)
 refine HC.out.mono ?_
 rintro e w1 (⟨hp, rfl, k1⟩ | ⟨p, hp, ⟨rfl, T1, hch, hk1, hT1⟩ | ⟨rfl, hz, T1, hpf, hk1, hT1⟩⟩)
 ·have HE : Hid (R = (160, given, E)) := Lib.hid (by rw [← HR.out]; unfold writeF fileF; rw [hp]; rfl)
  have K1 := Lib.hid k1
  clear hp k1
  go_wp2_with (fail)
  go_ret
  rw [HE.out]
  exact OpP.no (H.out.st.same K1.out) (by omega) H.out.sim (K1.out.mono (by simp)) (fun x hx => .inl hx) 160
 ·have H1 := Lib.hid (And.intro hch (And.intro hk1 hT1))
  have HNO : Hid (∀ (W : World) (r : Int), Kept [] w1 W → OpP w fb sb n V d T z given E (r, given, E) (.returned (I r)) W) := Lib.hid (fun W r k => OpP.no (H1.out.1.st.same k) (by omega) H.out.sim (H1.out.2.1.trans k (by simp)) H1.out.2.2 r)
  have HF := Lib.hid (ffile_any w1 ff sb V given E hch.fr hch.tabs.1 s hs)
  obtain ⟨x, hx⟩ : ∃ x, (fileF E s).2 = x := ⟨_, rfl⟩
  obtain ⟨r, hr⟩ : ∃ r, (fileF E s).1 = r := ⟨_, rfl⟩
  have HX := Lib.hid (And.intro hx hr)
  rw [hx, hr] at HF
  obtain ⟨L, hL⟩ : ∃ L, x.data.length = L := ⟨_, rfl⟩
  rw [hL] at HF
  obtain ⟨q, hq⟩ : ∃ q, x.num = q := ⟨_, rfl⟩
  rw [hq] at HF
  have HLL := Lib.hid (And.intro hL hq)
  have HRR : Hid (R = if r ≠ 0 then (r, given, E) else if at0 < 0 ∨ (L : Int) < at0 ∨ 128 < t.length ∨ 4096 - at0 < (t.length : Int) then (165, given, E) else tryF n given E given (setE E ⟨x.path, x.num, x.dir, wrB x.data at0.toNat t⟩)) := Lib.hid (by rw [← HR.out]; unfold writeF; rw [hx, hr, hL])
  clear hp hch hk1 hT1 hx hr hL hq
  go_wp2_with (fail)
  refine HF.out.mono ?_
  rintro e w2 ⟨rfl, k2⟩
  have n1 := heap_new w2 (Obj.cells #[I 0] 78)
  have hk2 := k2.alloc (Obj.cells #[I 0] 78)
  obtain ⟨W2, hW2⟩ : ∃ W2, w2.alloc (Obj.cells #[I 0] 78) = W2 := ⟨_, rfl⟩
  obtain ⟨b, hb⟩ : ∃ b, w2.heap.size = b := ⟨_, rfl⟩
  have hbw : w1.heap.size ≤ b := by rw [← hb]; exact k2.size
  rw [hW2] at n1 hk2
  rw [hb] at n1
  have a2 := free_at n1
  have a1 := cell_at n1 0
  simp only [List.getElem?_toArray, List.getElem?_cons_zero] at a1
  obtain ⟨W3, hW3⟩ : ∃ W3, W2.setCell ⟨b, 0, none⟩ (I L) = W3 := ⟨_, rfl⟩
  have b1 : W3.cell? ⟨b, 0, none⟩ = some (I L) := by rw [← hW3, cell_at (heap_setCell_at n1 0 _)]; rfl
  have hk3 : Kept [] w1 W3 := by rw [← hW3]; exact hk2.setCell (.inr hbw) _
  have HK := Lib.hid hk3
  have HB1 := Lib.hid b1
  clear n1 hk2 k2 hbw hk3
  by_cases hr0 : r = 0
  case neg =>
   have hrb : (r != 0) = true := by simpa using hr0
   have HE : Hid (R = (r, given, E)) := Lib.hid (by rw [HRR.out, if_pos hr0])
   clear hr0 b1
   go_wp2_with (first | (simp only [hW2, hW3]; done) | (simp only [hW2, hW3]))
   go_ret
   rw [HE.out]
   exact HNO.out _ _ HK.out
  case pos =>
  subst hr0
  have HRR2 : Hid (R = if at0 < 0 ∨ (L : Int) < at0 ∨ 128 < t.length ∨ 4096 - at0 < (t.length : Int) then (165, given, E) else tryF n given E given (setE E ⟨x.path, x.num, x.dir, wrB x.data at0.toNat t⟩)) := Lib.hid (by rw [HRR.out, if_neg (by simp)])
  by_cases hbad : at0 < 0 ∨ (L : Int) < at0 ∨ 128 < t.length ∨ 4096 - at0 < (t.length : Int)
  case pos =>
   have HE : Hid (R = (165, given, E)) := Lib.hid (by rw [HRR2.out, if_pos hbad])
   by_cases c1 : at0 < 0
   ·clear hbad
    go_wp2_with (first | (simp only [hW2, hW3]; done) | (simp only [hW2, hW3]))
    go_ret
    rw [HE.out]
    exact HNO.out _ _ HK.out
   have c1b : decide (at0 < 0) = false := decide_eq_false c1
   by_cases c2 : (L : Int) < at0
   ·clear hbad
    go_wp2_with (first | (simp only [hW2, hW3]; done) | (simp only [hW2, hW3]))
    go_ret
    rw [HE.out]
    exact HNO.out _ _ HK.out
   have c2b : decide ((L : Int) < at0) = false := decide_eq_false c2
   by_cases c3 : 128 < t.length
   ·have c3I : (128 : Int) < t.length := by omega
    clear hbad
    go_wp2_with (first | (simp only [hW2, hW3]; done) | (simp only [hW2, hW3]))
    go_ret
    rw [HE.out]
    exact HNO.out _ _ HK.out
   have c3b : decide ((128 : Int) < t.length) = false := decide_eq_false (by omega)
   have c4 : 4096 - at0 < (t.length : Int) := by omega
   have hL4 : L ≤ 4096 := by
    obtain ⟨p', _, _, _, _, hm⟩ := file_mem (E := E) (s := s) HX.out.2
    rw [HX.out.1] at hm
    rw [← HLL.out.1]
    exact (H.out.wf.data x hm).1
   have hL4I : (L : Int) ≤ 4096 := by omega
   have htI : (t.length : Int) ≤ 128 := by omega
   clear hbad
   go_wp2_with (first | (simp only [hW2, hW3]; done) | (simp only [hW2, hW3]))
   go_ret
   rw [HE.out]
   exact HNO.out _ _ HK.out
  case neg =>
  obtain ⟨A, rfl⟩ : ∃ A : Nat, at0 = A := ⟨at0.toNat, by omega⟩
  obtain ⟨p', _, _, hxd, hxe, hxE⟩ := file_mem (E := E) (s := s) HX.out.2
  rw [HX.out.1] at hxe hxE
  have hxdir : x.dir = false := by rw [← isDirP_of H.out.wf hxe]; exact hxd
  have hL4 : L ≤ 4096 := by rw [← HLL.out.1]; exact (H.out.wf.data x hxE).1
  obtain ⟨D, hD⟩ : ∃ D, x.data = D := ⟨_, rfl⟩
  have hDL : D.length = L := by rw [← hD]; exact HLL.out.1
  have hAL : A ≤ L := by omega
  have htl : t.length ≤ 128 := by omega
  have hAt : A + t.length ≤ 4096 := by omega
  have HE : Hid (R = tryF n given E given (setE E ⟨x.path, x.num, x.dir, wrB D A t⟩)) := Lib.hid (by rw [HRR2.out, if_neg hbad, hD]; rfl)
  have HCH := Lib.hid (fun W (k : Kept [] w1 W) i hi => fchunk_any W ff sb V given E (H1.out.1.fr.same k) x hxE i hi)
  rw [hD, HLL.out.2] at HCH
  have hxn := H.out.wf.num x hxE
  rw [HLL.out.2] at hxn
  have hgv := H.out.gv
  have hqI : (q : Int) ≤ 16777216 := by omega
  obtain ⟨k0, hk0⟩ : ∃ k0, 64 * q = k0 := ⟨_, rfl⟩
  have em0 : (64 : Int) * (q : Int) = (k0 : Int) := by omega
  have hk0I : (k0 : Int) ≤ 1073741824 := by omega
  have hLI : (L : Int) ≤ 4096 := by omega
  have hAI : (A : Int) ≤ 4096 := by omega
  have htI : (t.length : Int) ≤ 128 := by omega
  have c1b : decide ((A : Int) < 0) = false := decide_eq_false (by omega)
  have c2b : decide ((L : Int) < (A : Int)) = false := decide_eq_false (by omega)
  have c2n : decide (L < A) = false := decide_eq_false (by omega)
  have c2m : ¬ L < A := by omega
  have c3b : decide ((128 : Int) < t.length) = false := decide_eq_false (by omega)
  have c4b : decide ((4096 : Int) - (A : Int) < t.length) = false := decide_eq_false (by omega)
  have HQ : Hid (∀ k, behS [] (objF given E) k = chunkK given E q (wrB D A (t.take 0)) k) := Lib.hid (fun k => by
   rw [List.take_zero, wrB_nil, behS_nil, ← hD, ← HLL.out.2]
   exact (chunkK_self H.out.wf hxE k).symm)
  have HD := Lib.hid (And.intro hxE (And.intro hxdir (And.intro hD (And.intro hDL (And.intro hAL (And.intro htl (And.intro hAt (And.intro hxn hk0))))))))
  obtain ⟨mb, hmb⟩ : ∃ mb, W3.heap.size = mb := ⟨_, rfl⟩
  have HS0 : Hid (SetAt (W3.alloc (.map #[] 0)) mb []) := Lib.hid (by rw [← hmb]; exact amap_made W3)
  have HMB := Lib.hid hmb
  have HK0 : Hid (Kept [] W3 (W3.alloc (.map #[] 0))) := Lib.hid ((Kept.refl [] W3).alloc _)
  clear hbad hxd hxe hxE hxdir hD hDL htl hAt hxn hk0 hL4 hgv
  go_wp2_with (first | (simp only [hW2, hW3]; done) | (simp only [hW2, hW3]))
  go_loopw [14, 15] (fun v14 v15 wr => ∃ (m : Nat) (M : CM), m ≤ t.length ∧ v14 = S (t.drop m) ∧ v15 = I (A + m) ∧ SetAt wr mb M ∧ SetOK M (if m = 0 then 0 else if m < t.length then 135 else 270) ∧ (m = 0 ∨ m = t.length ∨ (A + m) % 128 = 0) ∧ (∀ k, behS M (objF given E) k = chunkK given E q (wrB D A (t.take m)) k) ∧ Kept [] W3 wr) (fun v14 _ _ => lenV v14)
  case atStart => exact ⟨0, [], by omega, rfl, by simp, HS0.out, SetOK.nil, .inl rfl, HQ.out, HK0.out⟩
  case round =>
   obtain ⟨m, M, hm, rfl, rfl, hS, hOK, hal, hbeh, kr⟩ := hrel
   have d1 := kr.cellOf HB1.out
   have HJ := Lib.hid (And.intro hS (And.intro hOK (And.intro hal (And.intro hbeh kr))))
   clear hS hOK hal hbeh kr
   by_cases hlt : m < t.length
   case neg =>
    have hme : m = t.length := by omega
    have hdr : t.drop m = [] := List.drop_eq_nil_of_le (by omega)
    obtain ⟨Lx, hLx⟩ : ∃ Lx, (wrB D A t).length = Lx := ⟨_, rfl⟩
    obtain ⟨hxE, hxdir, hD, hDL, hAL2, htl, hAt, hxn, hk0⟩ := HD.out
    have hlx2 : Lx = max L (A + t.length) := by rw [← hLx, wrB_len D t A (by omega), hDL]
    have hmax : max (L : Int) ((A : Int) + (t.length : Int)) = (Lx : Int) := by omega
    have HROW := Lib.hid (fun W => frow_any W Lx (by omega))
    obtain ⟨row, hrow⟩ : ∃ row, rowF Lx = row := ⟨_, rfl⟩
    rw [hrow] at HROW
    have hrl : row.length = 3 := by rw [← hrow]; simp [rowF, putN_len]
    have HFIN : Hid (∀ W (_ : SetAt W mb (putS M (k0 : Int) row)) (_ : Kept [] W3 W), Calls Tryz.prog 49 #[Ptr ff, .map (some mb)] W (OpP w fb sb n V d T z given E R)) := Lib.hid (fun W hS kW => by
     obtain ⟨hSx, hOK, hal, hbeh, kr⟩ := HJ.out
     have hOK2 : SetOK M 270 := ⟨hOK.srt, hOK.ok, Nat.le_trans hOK.size (by split <;> (try split) <;> omega)⟩
     have hOK3 := hOK2.put (k0 : Int) row (by omega) (by omega) (by omega)
     rw [HE.out]
     have hkw : Kept [] w1 W := HK.out.trans' kW
     have hwf := wf_set H.out.wf hxE (x' := ⟨x.path, x.num, x.dir, wrB D A t⟩) rfl rfl rfl (by show (wrB D A t).length ≤ 4096; omega) (by intro h; rw [show (⟨x.path, x.num, x.dir, wrB D A t⟩ : Nd).dir = x.dir from rfl, hxdir] at h; cases h)
     refine does_op (V0 := V) (H1.out.1.same hkw) mb _ hS 280 ⟨hOK3.srt, hOK3.ok, Nat.le_trans hOK3.size (by omega)⟩ (by omega) hwf (fun k => ?_) (Nat.le_refl _) (H1.out.2.1.trans hkw (by simp)) (fun x hx => H1.out.2.2 x hx) (Nat.le_trans H1.out.2.1.size hkw.size)
     rw [hme, List.take_length] at hbeh
     have hq2 := HLL.out.2
     have := row_put H.out.wf hxE hxdir hOK.srt (D' := wrB D A t) (fun k => by rw [hq2]; exact hbeh k) k
     have e : ((64 * x.num : Nat) : Int) = (k0 : Int) := by rw [hq2, hk0]
     rw [hLx, hrow, e] at this
     exact this)
    have HN := Lib.hid (And.intro hrow hrl)
    have hr4 : row.length ≤ 1000 := by omega
    clear hme hxE hxdir hD hDL htl hAt hxn hk0 hlx2 hLx hrow hrl
    go_wp2_with (fail)
    refine (HROW.out _).mono ?_
    rintro e w5 ⟨rfl, k5⟩
    have K5 := Lib.hid k5
    clear k5
    go_wp2_with (fail)
    refine (sput_any w5 mb M (HJ.out.1.same K5.out) (by have := HJ.out.2.1.len; split at this <;> (try split at this) <;> omega) (k0 : Int) ⟨by omega, by omega⟩ row hr4).mono ?_
    rintro e w6 ⟨rfl, s6, k6⟩
    have HFN := Lib.hid (HFIN.out w6 s6 ((HJ.out.2.2.2.2.trans' K5.out).new k6 (by intro x hx; simp at hx; have := HMB.out; omega)))
    clear s6 k6
    go_wp2_with (fail)
    refine HFN.out.mono ?_
    rintro e w7 ⟨r, T', rfl, hP2⟩
    have HPP2 := Lib.hid hP2
    clear hP2
    go_wp2_with (fail)
    go_ret
    exact ⟨r, T', rfl, HPP2.out⟩
   case pos =>
    obtain ⟨a, haa⟩ : ∃ a, A + m = a := ⟨_, rfl⟩
    obtain ⟨i, hi⟩ : ∃ i, a / 128 = i := ⟨_, rfl⟩
    obtain ⟨o, ho⟩ : ∃ o, a % 128 = o := ⟨_, rfl⟩
    have haI : (A : Int) + (m : Int) = (a : Int) := by omega
    obtain ⟨hxE, hxdir, hD, hDL, hAL2, htl, hAt, hxn, hk0⟩ := HD.out
    have hq1 : (a : Int).tdiv 128 = i := by rw [Int.tdiv_eq_ediv_of_nonneg (by omega)]; omega
    have hq2 : (a : Int) / 128 = i := by omega
    have hr1 : (a : Int).tmod 128 = o := by rw [Int.tmod_eq_emod_of_nonneg (by omega)]; omega
    have hr2 : (a : Int) % 128 = o := by omega
    obtain ⟨RS, hRS⟩ : ∃ RS, t.drop m = RS := ⟨_, rfl⟩
    have hRSl : RS.length = t.length - m := by rw [← hRS, List.length_drop]
    obtain ⟨nn, hnn⟩ : ∃ nn, min RS.length (128 - o) = nn := ⟨_, rfl⟩
    have hmin : min (RS.length : Int) (128 - (o : Int)) = (nn : Int) := by omega
    have hRSe : (RS == []) = false := by cases RS with | nil => simp at hRSl; omega | cons _ _ => rfl
    have hRSi : RS.isEmpty = false := by cases RS with | nil => simp at hRSl; omega | cons _ _ => rfl
    have HC2 := Lib.hid (HCH.out wr (HK.out.trans' HJ.out.2.2.2.2) i (by omega))
    have hol := chunk_len D i
    have hst := HJ.out.2.2.1
    have hstep := chunk_step D t A m nn (by omega) (by omega) (by omega) (by rw [haa, ho]; omega) (by rcases hst with h | h | h <;> omega) (by rw [haa, ho]; omega)
    simp only at hstep
    rw [haa, hi, ho, hRS] at hstep
    have hsame := fun j (hj : j ≠ i) => chunk_same D t A m nn j (by omega) (by omega) (by rw [haa, ho]; omega) (by rw [haa, hi]; exact hj) (by omega)
    obtain ⟨C, hC⟩ : ∃ C, chunkF D i = C := ⟨_, rfl⟩
    rw [hC] at HC2 hol hstep
    have hlow : o ≤ C.length := by
     rw [hol, hDL]
     rcases hst with h | h | h
     ·subst h; omega
     ·omega
     ·rw [haa] at h; omega
    have hminA : min (C.length : Int) (o : Int) = (o : Int) := by omega
    obtain ⟨k2, hk2e⟩ : ∃ k2, min C.length (o + nn) = k2 := ⟨_, rfl⟩
    have hminB : min (C.length : Int) ((o : Int) + (nn : Int)) = (k2 : Int) := by omega
    have hdrop : C.drop k2 = C.drop (o + nn) := by
     by_cases hc : o + nn ≤ C.length
     ·rw [← hk2e, Nat.min_eq_right hc]
     ·rw [← hk2e, Nat.min_eq_left (by omega), List.drop_eq_nil_of_le (Nat.le_refl _), List.drop_eq_nil_of_le (by omega)]
    obtain ⟨NC, hNC⟩ : ∃ NC, C.take o ++ RS.take nn ++ C.drop (o + nn) = NC := ⟨_, rfl⟩
    have hNC2 : NC = chunkF (wrB D A (t.take (m + nn))) i := by rw [← hNC]; exact hstep
    have hNCl : NC.length ≤ 128 := by rw [hNC2, chunk_len]; omega
    have hcat : C.take o ++ (RS.take nn ++ C.drop k2) = NC := by rw [hdrop, ← hNC, List.append_assoc]
    have hcat2 : C.take o ++ RS.take nn ++ C.drop k2 = NC := by rw [hdrop, ← hNC]
    obtain ⟨kk, hkk⟩ : ∃ kk, 64 * q + 1 + i = kk := ⟨_, rfl⟩
    have em1 : (k0 : Int) + 1 + (i : Int) = (kk : Int) := by omega
    have hkkI : (kk : Int) ≤ 1073742000 := by omega
    have hiI : (i : Int) ≤ 32 := by omega
    have hoI : (o : Int) ≤ 127 := by omega
    have hCI : (C.length : Int) ≤ 128 := by omega
    have hRSI : (RS.length : Int) ≤ 128 := by omega
    have hoC : (o : Int) ≤ C.length := by omega
    have hnR : (nn : Int) ≤ RS.length := by omega
    have hk2C : (k2 : Int) ≤ C.length := by omega
    have hn128 : (nn : Int) ≤ 128 := by omega
    obtain ⟨P1, hP1⟩ : ∃ P1, C.take o = P1 := ⟨_, rfl⟩
    obtain ⟨P2, hP2⟩ : ∃ P2, RS.take nn = P2 := ⟨_, rfl⟩
    obtain ⟨P3, hP3⟩ : ∃ P3, C.drop k2 = P3 := ⟨_, rfl⟩
    have hP1l : P1.length ≤ 128 := by rw [← hP1, List.length_take]; omega
    have hP2l : P2.length ≤ 128 := by rw [← hP2, List.length_take]; omega
    have hP3l : P3.length ≤ 128 := by rw [← hP3, List.length_drop]; omega
    rw [hP1, hP2, hP3] at hcat hcat2
    have hP1I : (P1.length : Int) ≤ 128 := by omega
    have hP2I : (P2.length : Int) ≤ 128 := by omega
    have hP3I : (P3.length : Int) ≤ 128 := by omega
    have hwp1 : IntKind.i64.wrap ((o : Int) + (nn : Int)) = (o : Int) + (nn : Int) := by rw [IntKind.wrap_i64]; omega
    have hwp0 : IntKind.i64.wrap (k0 : Int) = (k0 : Int) := by rw [IntKind.wrap_i64]; omega
    have hwp3 : IntKind.i64.wrap ((k0 : Int) + 1) = (k0 : Int) + 1 := by rw [IntKind.wrap_i64]; omega
    have hwp4 : IntKind.i64.wrap (kk : Int) = (kk : Int) := by rw [IntKind.wrap_i64]; omega
    have hwp2 : IntKind.i64.wrap ((k0 : Int) + 1 + (i : Int)) = (kk : Int) := by rw [IntKind.wrap_i64]; omega
    have hcs1 : ¬ 9223372036854775807 < P1.length + P2.length := by omega
    have hcs2 : ¬ 9223372036854775807 < P1.length + P2.length + P3.length := by omega
    have hk2N : k2 ≤ C.length := by omega
    have hoN : o ≤ C.length := by omega
    have hnN : nn ≤ RS.length := by omega
    have hk20 : (0 : Int) ≤ k2 := by omega
    have hdr2 : RS.drop nn = t.drop (m + nn) := by rw [← hRS, List.drop_drop]
    have HM := Lib.hid (And.intro hNC2 (And.intro hsame (And.intro hkk (And.intro hRSl (And.intro hnn (And.intro hdr2 (And.intro haa (And.intro hi (And.intro ho (And.intro hlt (And.intro htl (And.intro hAt (And.intro hNCl (And.intro hxn hDL))))))))))))))
    rw [hRS, haI]
    have HSP : Hid (∀ W (_ : Kept [] wr W), Calls Tryz.prog 47 #[.map (some mb), I kk, S NC] W fun e w' => e = .returned (.tuple #[]) ∧ SetAt w' mb (putS M (kk : Int) NC) ∧ Kept [mb] W w') := Lib.hid (fun W k => sput_any W mb M (HJ.out.1.same k) (by have := HJ.out.2.1.len; split at this <;> (try split at this) <;> omega) (kk : Int) ⟨by omega, by omega⟩ NC (by omega))
    clear haa hi ho hxE hxdir hD hDL htl hAt hxn hk0 hRSl hnn hol hst hstep hsame hC hlow hk2e hdrop hNC hNC2 hkk hdr2 hRS
    go_upto_region 15 with (fail)
    refine HC2.out.mono ?_
    rintro e w4 ⟨rfl, k4⟩
    have d4 := k4.cellOf d1
    have K4 := Lib.hid k4
    clear k4
    go_upto_region 15 with (fail)
    go_region_law (first
     | (go_simp; go_at_call 47; (with_reducible refine (HSP.out _ K4.out.drew).mono ?_); rintro e w5 ⟨rfl, s5, k5⟩))
    all_goals
     have K5 := Lib.hid (And.intro s5 k5)
     clear s5 k5
     go_wp2_with (fail)
     go_roundw
     case rel =>
      obtain ⟨hNC2, hsame, hkk, hRSl, hnn, hdr2, haa, hi, ho, hlt, htl, hAt, hNCl, hxn, hDL⟩ := HM.out
      obtain ⟨hSx, hOK, hal, hbeh, kr⟩ := HJ.out
      have hput := hOK.put (kk : Int) NC (by omega) (by omega) (by omega)
      have hts : (t.take (m + nn)).length = m + nn := by rw [List.length_take]; omega
      refine ⟨m + nn, putS M (kk : Int) NC, by omega, by rw [hdr2], by go_num, K5.out.1, ⟨hput.srt, hput.ok, Nat.le_trans hput.size ?_⟩, ?_, fun k => ?_, ?_⟩
      ·have h1 : ¬ m + nn = 0 := by omega
       rw [if_neg h1]
       by_cases h0 : m = 0
       ·rw [if_pos h0]
        split <;> omega
       ·have h2 : ¬ m + nn < t.length := by omega
        rw [if_neg h0, if_pos hlt, if_neg h2]
        omega
      ·omega
      ·have := chunk_put (given := given) (E := E) hOK.srt (q := q) (D := wrB D A (t.take m)) (D' := wrB D A (t.take (m + nn))) (i := i) (by omega) hxn.1 hbeh (by rw [wrB_len _ _ _ (by omega), hts]; omega) hsame k
       rw [hkk, ← hNC2] at this
       exact this
      ·exact (kr.trans' K4.out.drew).new K5.out.2 (by intro x hx; simp at hx; have := HMB.out; omega)
     case measure =>
      obtain ⟨hNC2, hsame, hkk, hRSl, hnn, hdr2, haa, hi, ho, hlt, htl, hAt, hNCl, hxn, hDL⟩ := HM.out
      first
       | (show (RS.drop nn).length < RS.length; rw [List.length_drop]; omega)
       | (show (RS.drop nn).length < (t.drop m).length; rw [List.length_drop, List.length_drop]; omega)
 ·have HX := Lib.hid (OpP.gone (n := n) (sb := sb) (d := d) H.out.st.sorted H.out.st.stk.small.2.2.1 hz hpf (by omega) H.out.sim hk1 hT1 R)
  clear hp hz hpf hk1 hT1
  go_wp2_with (fail)
  go_ret
  exact HX.out
end Go.Proofs.YteplbljjlbdhaaaGreatDoor
