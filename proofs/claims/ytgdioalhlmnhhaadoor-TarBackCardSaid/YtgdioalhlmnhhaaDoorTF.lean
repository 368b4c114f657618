/- Walks and lemmas on the program of this seat, used by its statements; each theorem bears its own conditions. -/
import Derived.Test.YtgdioalhlmnhhaaDoorTD
import Derived.Lib.IndexBytes
import Derived.Handy
import Derived.Lib.BufferWrite
import Derived.Laws.CopyOwn
namespace Go.Proofs.YtgdioalhlmnhhaaDoor
open Go.RowKit
set_option linter.unusedVariables false
set_option linter.unusedSimpArgs false
/-! ### Head -/
abbrev boxV (v : Value) : Obj := .cells #[v] 31
set_option maxHeartbeats 4000000 in
set_option maxRecDepth 100000 in
theorem put_any (cb g : Nat) (at_ : Nat) (cur s : List UInt8) (w : World) (hc : w.heap[cb]? = some (boxV (.slice (some ⟨g, 0, none⟩) 512 512))) (hg : Row w g cur) (hcl : cur.length = 512) (hat : at_ < 512) (h : at_ + s.length ≤ 512) :
    Calls Tryd.prog 47 #[I at_, S s, Ptr cb] w fun e w' => e = .returned (.tuple #[]) ∧ Row w' g (putL cur at_ s) ∧ Kept [g] w w' := by
  have hcell := cell_at hc 0
  have h1 : (at_ : Int) < 512 := by omega
  have h2 : (at_ : Int) ≤ 512 := by omega
  have HG := Lib.hid hg
  have h3 : s.length ≤ 512 - at_ := by omega
  have h4 : at_ + s.length ≤ cur.length := by omega
  clear hc hg
  simp only [List.getElem?_toArray, List.getElem?_cons_zero] at hcell
  go_enter Tryd.func47, Tryd.ntmps47
  go_wp2_with (with_reducible refine wpList_copy_text rfl (.tmp 7) (.tmp 8) rfl g at_ (512 - at_) (512 - at_) cur s ?_ ?_ HG.out h3 h4 ?_)
  · rfl
  · rfl
  · intro w' HR HK
    go_wp2
    go_end0
    exact ⟨rfl, HR.out, HK.out⟩
theorem idx0_iff (l : List UInt8) : 0 ≤ Lib.indexByte l 0 ↔ ¬ ∀ c ∈ l, c ≠ 0 := by
  induction l with
  | nil => simp [Lib.indexByte]
  | cons c t ih =>
    unfold Lib.indexByte
    by_cases hc : c = 0
    · subst hc; simp
    · have h1 : (c == 0) = false := by simpa using hc
      have h3 := Lib.indexByte_ge t 0
      simp only [h1, Bool.false_eq_true, if_false, List.forall_mem_cons]
      by_cases h2 : Lib.indexByte t 0 = -1
      · have h4 : ∀ x ∈ t, x ≠ 0 := by
          rcases Decidable.em (∀ x ∈ t, x ≠ 0) with h | h
          · exact h
          · have := ih.2 h; omega
        rw [h2]
        simp only [beq_self_eq_true, if_true]
        constructor
        · intro h; omega
        · intro h; exact absurd ⟨hc, h4⟩ h
      · have h5 : (Lib.indexByte t 0 == -1) = false := by rw [beq_eq_false_iff_ne]; exact h2
        simp only [h5, Bool.false_eq_true, if_false]
        constructor
        · intro _ h; exact ih.1 (by omega) h.2
        · intro _; omega
theorem okHead_iff (l : List UInt8) (n : Int) : TX.okHead l n = true ↔ (1 ≤ (l.length : Int) ∧ (l.length : Int) ≤ 100 ∧ ¬ 0 ≤ Lib.indexByte l 0 ∧ 0 ≤ n) := by
  unfold TX.okHead
  rw [decide_eq_true_eq, idx0_iff, Decidable.not_not]
  constructor <;> (rintro ⟨a, b, c, d⟩; exact ⟨by omega, by omega, c, d⟩)
/-! what the head's writes make, one behind the other -/
def mag8 : List UInt8 := [117, 115, 116, 97, 114, 0, 48, 48]
theorem mag8_eq : mag8 = TX.mag ++ [0, 48, 48] := rfl
def puts (l : List UInt8) (n : Nat) : List UInt8 :=
  let b0 := putL (zerosL 512) 0 l
  let b1 := putL b0 100 TX.mode
  let b2 := putL b1 108 TX.own0
  let b3 := putL b2 116 TX.own0
  let b4 := putL b3 124 (TX.octL n 11)
  let b5 := putL b4 136 TX.time0
  let b6 := putL b5 156 [48]
  putL b6 257 mag8
theorem putL_mid (A X C Y : List UInt8) (o : Nat) (ho : A.length = o) (hx : X.length = Y.length) : putL (A ++ (X ++ C)) o Y = A ++ (Y ++ C) := by
  unfold putL
  rw [List.take_left' ho, ← hx]
  have : (A ++ (X ++ C)).drop (o + X.length) = C := by rw [← List.append_assoc, List.drop_left' (by simp [ho])]
  rw [this, List.append_assoc]
theorem zeros_add (a b : Nat) : zerosL (a + b) = zerosL a ++ zerosL b := by simp [zerosL, List.replicate_append_replicate]
theorem putZ (A M Y : List UInt8) (a n k o : Nat) (hn : n = a + (Y.length + k)) (ho : (A ++ (M ++ zerosL a)).length = o) : putL (A ++ (M ++ zerosL n)) o Y = (A ++ (M ++ zerosL a)) ++ (Y ++ zerosL k) := by
  subst hn
  rw [zeros_add, zeros_add, show A ++ (M ++ (zerosL a ++ (zerosL Y.length ++ zerosL k))) = (A ++ (M ++ zerosL a)) ++ (zerosL Y.length ++ zerosL k) by simp [List.append_assoc]]
  exact putL_mid _ _ _ _ _ ho (zerosL_len _)
theorem puts_eq (l : List UInt8) (n : Nat) (hl : l.length ≤ 100) : puts l n = TX.headW l n (TX.zeros 8) := by
  unfold puts
  dsimp only
  rw [mag8_eq]
  have h0 : putL (zerosL 512) 0 l = [] ++ (l ++ zerosL (512 - l.length)) := putZ [] [] l 0 512 (512 - l.length) 0 (by omega) (by simp [zerosL])
  rw [h0]
  have h1 := putZ [] l TX.mode (100 - l.length) (512 - l.length) 405 100 (by simp [TX.mode]; omega) (by simp [zerosL_len]; omega)
  rw [h1]
  have l1 : ([] ++ (l ++ zerosL (100 - l.length))).length = 100 := by simp [zerosL_len]; omega
  generalize hp1 : ([] ++ (l ++ zerosL (100 - l.length)) : List UInt8) = P1 at *
  rw [putZ P1 TX.mode TX.own0 1 405 397 108 (by simp [TX.own0]) (by simp [l1, TX.mode, zerosL_len])]
  have l2 : (P1 ++ (TX.mode ++ zerosL 1)).length = 108 := by simp [l1, TX.mode, zerosL_len]
  generalize hp2 : (P1 ++ (TX.mode ++ zerosL 1) : List UInt8) = P2 at *
  rw [putZ P2 TX.own0 TX.own0 1 397 389 116 (by simp [TX.own0]) (by simp [l2, TX.own0, zerosL_len])]
  have l3 : (P2 ++ (TX.own0 ++ zerosL 1)).length = 116 := by simp [l2, TX.own0, zerosL_len]
  generalize hp3 : (P2 ++ (TX.own0 ++ zerosL 1) : List UInt8) = P3 at *
  rw [putZ P3 TX.own0 (TX.octL n 11) 1 389 377 124 (by simp [TX.octL_len]) (by simp [l3, TX.own0, zerosL_len])]
  have l4 : (P3 ++ (TX.own0 ++ zerosL 1)).length = 124 := by simp [l3, TX.own0, zerosL_len]
  generalize hp4 : (P3 ++ (TX.own0 ++ zerosL 1) : List UInt8) = P4 at *
  rw [putZ P4 (TX.octL n 11) TX.time0 1 377 365 136 (by simp [TX.time0]) (by simp [l4, TX.octL_len, zerosL_len])]
  have l5 : (P4 ++ (TX.octL n 11 ++ zerosL 1)).length = 136 := by simp [l4, TX.octL_len, zerosL_len]
  generalize hp5 : (P4 ++ (TX.octL n 11 ++ zerosL 1) : List UInt8) = P5 at *
  rw [putZ P5 TX.time0 [48] 9 365 355 156 (by simp) (by simp [l5, TX.time0, zerosL_len])]
  have l6 : (P5 ++ (TX.time0 ++ zerosL 9)).length = 156 := by simp [l5, TX.time0, zerosL_len]
  generalize hp6 : (P5 ++ (TX.time0 ++ zerosL 9) : List UInt8) = P6 at *
  rw [putZ P6 [48] (TX.mag ++ [0, 48, 48]) 100 355 247 257 (by simp [TX.mag]) (by simp [l6, zerosL_len])]
  rw [← hp6, ← hp5, ← hp4, ← hp3, ← hp2, ← hp1]
  have z1 : zerosL 1 = [0] := rfl
  have z9 : zerosL 9 = [0] ++ TX.zeros 8 := rfl
  have zz : ∀ n, zerosL n = TX.zeros n := fun _ => rfl
  rw [z1, z9]
  simp only [zz, TX.headW, TX.front, TX.back, List.append_assoc, List.nil_append]
theorem puts_chk (l : List UInt8) (n : Nat) (hl : l.length ≤ 100) (c : List UInt8) (hc : c.length = 8) : putL (puts l n) 148 c = TX.headW l n c := by
  rw [puts_eq l n hl]
  unfold TX.headW
  exact putL_mid _ _ _ _ _ (TX.front_len l n hl) (by rw [hc]; rfl)
theorem puts_len (l : List UInt8) (n : Nat) (hl : l.length ≤ 100) : (puts l n).length = 512 := by rw [puts_eq l n hl]; exact TX.headW_len _ _ _ hl rfl
theorem puts_head (l : List UInt8) (n : Nat) (hl : l.length ≤ 100) : putL (puts l n) 148 (TX.octL (TX.sumTo (puts l n) 512) 6 ++ [0, 32]) = TX.headL l n := by
  rw [puts_chk l n hl _ (by simp [TX.octL_len]), puts_eq l n hl]; rfl
structure HW (w0 : World) (g cb : Nat) (cur : List UInt8) (w : World) : Prop where
  row : Row w g cur
  box : w.heap[cb]? = some (boxV (.slice (some ⟨g, 0, none⟩) 512 512))
  kept : Kept [] w0 w
  hg : w0.heap.size ≤ g
  ne : g ≠ cb
  len : cur.length = 512
theorem HW.go {w0 : World} {g cb : Nat} {cur : List UInt8} {w w' : World} (h : HW w0 g cb cur w) (k : Kept [] w w') : HW w0 g cb cur w' :=
  ⟨h.row.kept k (by simp), k.at h.box (by simp), h.kept.trans' k, h.hg, h.ne, h.len⟩
theorem put_hw {w0 : World} {g cb : Nat} {cur : List UInt8} (at_ : Nat) (s : List UInt8) (w : World) (h : HW w0 g cb cur w) (hat : at_ < 512) (hs : at_ + s.length ≤ 512) :
    Calls Tryd.prog 47 #[I at_, S s, Ptr cb] w fun e w' => e = .returned (.tuple #[]) ∧ HW w0 g cb (putL cur at_ s) w' :=
  (put_any cb g at_ cur s w h.box h.row h.len hat hs).mono fun e w' ⟨h1, h2, h3⟩ => ⟨h1, h2, h3.at h.box (by simp; exact fun e => h.ne e.symm), h.kept.new1 h3 h.hg, h.hg, h.ne, by rw [putL_len _ _ _ (by rw [h.len]; exact hs)]; exact h.len⟩
abbrev VH (p : List UInt8 × Int) : Value := .tuple #[S p.1, I p.2]
set_option maxHeartbeats 8000000 in
set_option maxRecDepth 100000 in
theorem head_any (l : List UInt8) (n : Int) (w : World) :
    Calls Tryd.prog 15 #[S l, I n] w fun e w' => e = .returned (VH (TX.headF l n)) ∧ Kept [] w w' := by
  have hok := okHead_iff l n
  have cI := Tryd.strings_IndexByte ⟨l.toArray⟩ 0 w
  obtain ⟨ix, hix⟩ : ∃ ix, Lib.indexByte l 0 = ix := ⟨_, rfl⟩
  have hcI : Hid (Calls Tryd.prog 46 #[S l, .int .u8 0] w fun e w' => e = .returned (I ix) ∧ w' = w) := Lib.hid (by rw [← hix]; exact cI)
  rw [hix] at hok
  clear cI hix
  by_cases hk : TX.okHead l n = true
  · have hk2 := hok.1 hk
    by_cases hlong : 1048576 < n
    · have HR : Hid (VH (TX.headF l n) = VH ([], 202)) := Lib.hid (by unfold TX.headF; rw [if_neg (by rw [hk]; simp), if_pos hlong])
      obtain ⟨a1, a2, a3, a4⟩ := hk2
      have b1 : l.isEmpty = false := by cases l with | nil => simp at a1 | cons _ _ => rfl
      have b2 : ¬ (l.length : Int) > 100 := by omega
      have b4 : ¬ n < 0 := by omega
      clear hok hk a1 a2
      go_enter Tryd.func15, Tryd.ntmps15
      go_wp2_with (fail)
      refine hcI.out.mono ?_
      rintro e w1 ⟨rfl, rfl⟩
      go_wp2
      go_returns
      exact ⟨by rw [HR.out] <;> rfl, Kept.refl _ _⟩
    · have HR : Hid (VH (TX.headF l n) = VH (TX.headL l n.toNat, 0)) := Lib.hid (by unfold TX.headF; rw [if_neg (by rw [hk]; simp), if_neg hlong])
      obtain ⟨a1, a2, a3, a4⟩ := hk2
      have b1 : l.isEmpty = false := by cases l with | nil => simp at a1 | cons _ _ => rfl
      have b2 : ¬ (l.length : Int) > 100 := by omega
      have b4 : ¬ n < 0 := by omega
      have hl100 : l.length ≤ 100 := by omega
      obtain ⟨k, rfl⟩ := Int.eq_ofNat_of_zero_le a4
      have hm : (Instr.makeSlice 31 (.int .i64 512) (.int .i64 512)).run Tryd.prog w = .ok (.slice (some ⟨w.heap.size, 0, none⟩) 512 512) (w.alloc (.cells (Lib.byteCells (zerosL 512)).toArray 5)) := make_bytes w 512 (by omega)
      have hrow : Row (w.alloc (.cells (Lib.byteCells (zerosL 512)).toArray 5)) w.heap.size (zerosL 512) := heap_new w _
      obtain ⟨W, hW⟩ : ∃ W, w.alloc (.cells (Lib.byteCells (zerosL 512)).toArray 5) = W := ⟨_, rfl⟩
      have hsz : W.heap.size = w.heap.size + 1 := by rw [← hW]; simp
      rw [hW] at hm hrow
      have K0 : Hid (Kept [] w W) := Lib.hid (hW ▸ (Kept.refl [] w).alloc _)
      have R0 := Lib.hid (And.intro hrow hsz)
      have HL := Lib.hid (And.intro a1 (And.intro a2 hl100))
      clear hok hk a1 a2 hW hrow hsz hl100
      go_enter Tryd.func15, Tryd.ntmps15
      go_wp2_with (fail)
      refine hcI.out.mono ?_
      rintro e w1 ⟨rfl, rfl⟩
      go_wp2_with (fail)
      have Q0 : Hid (HW w1 w1.heap.size W.heap.size (zerosL 512) (W.alloc (boxV (.slice (some ⟨w1.heap.size, 0, none⟩) 512 512)))) := Lib.hid
        ⟨Row.kept R0.out.1 ((Kept.refl [] W).alloc _) (by simp), heap_new W _, K0.out.alloc _, Nat.le_refl _, by have := R0.out.2; omega, zerosL_len 512⟩
      refine (put_hw 0 l _ Q0.out (by omega) (by have := HL.out.2.2; omega)).mono ?_
      rintro e w2 ⟨rfl, h2⟩
      have Q2 := Lib.hid h2
      clear h2
      go_wp2_with (fail)
      refine (put_hw 100 TX.mode _ Q2.out (by omega) (by simp [TX.mode])).mono ?_
      rintro e w3 ⟨rfl, h3⟩
      have Q3 := Lib.hid h3
      clear h3
      go_wp2_with (fail)
      refine (put_hw 108 TX.own0 _ Q3.out (by omega) (by simp [TX.own0])).mono ?_
      rintro e w4 ⟨rfl, h4⟩
      have Q4 := Lib.hid h4
      clear h4
      go_wp2_with (fail)
      refine (put_hw 116 TX.own0 _ Q4.out (by omega) (by simp [TX.own0])).mono ?_
      rintro e w5 ⟨rfl, h5⟩
      have Q5 := Lib.hid h5
      clear h5
      go_wp2_with (fail)
      refine (octal_any k 11 _ (by omega) (by omega) (by omega)).mono ?_
      rintro e w6 ⟨rfl, k6⟩
      have Q6 := Lib.hid (Q5.out.go k6)
      clear k6
      go_wp2_with (fail)
      refine (put_hw 124 (TX.octL k 11) _ Q6.out (by omega) (by simp [TX.octL_len])).mono ?_
      rintro e w7 ⟨rfl, h7⟩
      have Q7 := Lib.hid h7
      clear h7
      go_wp2_with (fail)
      refine (put_hw 136 TX.time0 _ Q7.out (by omega) (by simp [TX.time0])).mono ?_
      rintro e w8 ⟨rfl, h8⟩
      have Q8 := Lib.hid h8
      clear h8
      go_wp2_with (fail)
      refine (put_hw 156 [48] _ Q8.out (by omega) (by simp)).mono ?_
      rintro e w9 ⟨rfl, h9⟩
      have Q9 := Lib.hid h9
      clear h9
      go_wp2_with (fail)
      refine (put_hw 257 mag8 _ Q9.out (by omega) (by simp [mag8])).mono ?_
      rintro e w10 ⟨rfl, h10⟩
      have Q10 := Lib.hid h10
      clear h10
      have Q11 : Hid (HW w1 w1.heap.size W.heap.size (puts l k) w10) := Lib.hid Q10.out
      obtain ⟨cur, hcur⟩ : ∃ c, puts l k = c := ⟨_, rfl⟩
      rw [hcur] at Q11
      have hbx := cell_at Q11.out.box 0
      simp only [List.getElem?_toArray, List.getElem?_cons_zero] at hbx
      have hcv := conv_row Q11.out.row 512
      rw [Q11.out.len] at hcv
      have HC := Lib.hid hcur
      clear hcur Q2 Q3 Q4 Q5 Q6 Q7 Q8 Q9 Q10
      go_wp2_with (fail)
      refine (tsum_any cur w10 (by have := Q11.out.len; omega)).mono ?_
      rintro e w11 ⟨rfl, rfl⟩
      obtain ⟨m, hm1⟩ : ∃ m, TX.sumTo cur cur.length = m := ⟨_, rfl⟩
      rw [hm1]
      have hm2 : TX.sumTo cur 512 = m := by rw [← hm1, Q11.out.len]
      have hm3 := TX.sumTo_le cur 512
      have hm4 : m ≤ 9223372036854775807 := by omega
      have HM := Lib.hid (And.intro hm2 hm4)
      clear hm1 hm2 hm3 hm4
      go_wp2_with (fail)
      refine (octal_any m 6 w10 HM.out.2 (by omega) (by omega)).mono ?_
      rintro e w12 ⟨rfl, k12⟩
      have Q12 := Lib.hid (Q11.out.go k12)
      clear k12 hcv hbx
      have hl2 : (TX.octL m 6).length + 2 ≤ 9223372036854775807 := by rw [TX.octL_len]; omega
      go_wp2_with (fail)
      refine (put_hw 148 (TX.octL m 6 ++ [0, 32]) _ Q12.out (by omega) (by simp [TX.octL_len])).mono ?_
      rintro e w13 ⟨rfl, h13⟩
      have hfin : putL cur 148 (TX.octL m 6 ++ [0, 32]) = TX.headL l k := by
        rw [← HM.out.1, ← HC.out]; exact puts_head l k HL.out.2.2
      rw [hfin] at h13
      have Q13 := Lib.hid h13
      have hbx := cell_at Q13.out.box 0
      simp only [List.getElem?_toArray, List.getElem?_cons_zero] at hbx
      have hcv := conv_row Q13.out.row 512
      rw [Q13.out.len] at hcv
      clear h13 hfin hl2
      have hkn : ((k : Int)).toNat = k := Int.toNat_natCast k
      go_wp2
      go_returns
      exact ⟨by rw [HR.out, hkn] <;> rfl, Q13.out.kept⟩
  · have HR : Hid (VH (TX.headF l n) = VH ([], 200)) := Lib.hid (by unfold TX.headF; rw [if_pos (by simpa using hk)])
    have hbad : ¬ (1 ≤ (l.length : Int) ∧ (l.length : Int) ≤ 100 ∧ ¬ 0 ≤ ix ∧ 0 ≤ n) := fun h => hk (hok.2 h)
    clear hok hk
    by_cases c1 : l = []
    · subst c1
      clear hbad
      go_enter Tryd.func15, Tryd.ntmps15
      go_wp2
      go_returns
      exact ⟨by rw [HR.out] <;> rfl, Kept.refl _ _⟩
    · have b1 : l.isEmpty = false := by cases l with | nil => exact absurd rfl c1 | cons _ _ => rfl
      have b0 : 1 ≤ (l.length : Int) := by have := List.length_pos_iff.2 c1; omega
      by_cases c2 : (l.length : Int) > 100
      · clear hbad
        go_enter Tryd.func15, Tryd.ntmps15
        go_wp2
        go_returns
        exact ⟨by rw [HR.out] <;> rfl, Kept.refl _ _⟩
      · have c3 : ¬ ix < 0 ∨ (ix < 0 ∧ n < 0) := by omega
        clear hbad
        rcases c3 with c3 | ⟨c3, c4⟩ <;>
        · go_enter Tryd.func15, Tryd.ntmps15
          go_wp2_with (fail)
          refine hcI.out.mono ?_
          rintro e w1 ⟨rfl, rfl⟩
          go_wp2
          go_returns
          exact ⟨by rw [HR.out] <;> rfl, Kept.refl _ _⟩
end Go.Proofs.YtgdioalhlmnhhaaDoor
