/- Walks and lemmas on the program of this seat, used by its statements; each theorem bears its own conditions. -/
import Derived.Test.YtgdioalhlmnhhaaDoorTF
import Derived.Lib.IndexBytes
import Derived.Handy
import Derived.Lib.BufferWrite
import Derived.Laws.CopyOwn
namespace Go.Proofs.YtgdioalhlmnhhaaDoor
open Go.RowKit
set_option linter.unusedVariables false
set_option linter.unusedSimpArgs false
/-! ### the reference's Head -/
theorem putL_one (cur : List UInt8) (o : Nat) (c : UInt8) (h : o < cur.length) : cur.set o c = putL cur o [c] := by
  unfold putL
  rw [List.set_eq_take_append_cons_drop, if_pos h]
  simp
structure RW (w0 : World) (g : Nat) (cur : List UInt8) (w : World) : Prop where
  row : Row w g cur
  kept : Kept [] w0 w
  hg : w0.heap.size ≤ g
  len : cur.length = 512
theorem RW.go {w0 : World} {g : Nat} {cur : List UInt8} {w w' : World} (h : RW w0 g cur w) (k : Kept [] w w') : RW w0 g cur w' :=
  ⟨h.row.kept k (by simp), h.kept.trans' k, h.hg, h.len⟩
theorem RW.put {w0 : World} {g : Nat} {cur : List UInt8} {w w' : World} (h : RW w0 g cur w) (o : Nat) (s : List UInt8) (hs : o + s.length ≤ 512) (hr : Hid (Row w' g (putL cur o s))) (hk : Hid (Kept [g] w w')) : RW w0 g (putL cur o s) w' :=
  ⟨hr.out, h.kept.new1 hk.out h.hg, h.hg, by rw [putL_len _ _ _ (by rw [h.len]; exact hs)]; exact h.len⟩
theorem RW.drew {w0 : World} {g : Nat} {cur : List UInt8} {w : World} (h : RW w0 g cur w) : RW w0 g cur w.drew := ⟨h.row, h.kept.drew, h.hg, h.len⟩
theorem RW.one {w0 : World} {g : Nat} {cur : List UInt8} {w : World} (h : RW w0 g cur w) (o : Nat) (c : UInt8) (ho : o < 512) : RW w0 g (putL cur o [c]) (w.setCell ⟨g, o, none⟩ (B c)) :=
  ⟨by rw [← putL_one cur o c (by rw [h.len]; exact ho)]; exact h.row.set o c, h.kept.setCell (.inr h.hg) _, h.hg, by rw [putL_len _ _ _ (by rw [h.len]; simp; omega)]; exact h.len⟩
theorem RW.fit {w0 : World} {g : Nat} {cur : List UInt8} {w : World} (h : RW w0 g cur w) {o : Nat} {s : List UInt8} (hs : o + s.length ≤ 512) : o + s.length ≤ cur.length := by rw [h.len]; exact hs
theorem bool_t {p : Prop} [Decidable p] (h : p) : Value.bool true = .bool (decide p) := congrArg _ (decide_eq_true h).symm
theorem bool_f {p : Prop} [Decidable p] (h : ¬ p) : Value.bool false = .bool (decide p) := congrArg _ (decide_eq_false h).symm
theorem bool_d {p q : Prop} [Decidable p] [Decidable q] (h : p ↔ q) : Value.bool (decide p) = .bool (decide q) := congrArg _ (decide_eq_decide.2 h)
theorem all_step (p : UInt8 → Bool) (l : List UInt8) (i : Nat) (h : i < l.length) : (l.take (i + 1)).all p = ((l.take i).all p && p (byteAt l i)) := by
  rw [List.take_succ_eq_append_getElem h, List.all_append, ← byteAt_eq l i h]
  simp
theorem okHead_all (l : List UInt8) (n : Int) : TX.okHead l n = (decide (1 ≤ (l.length : Int) ∧ (l.length : Int) ≤ 100 ∧ 0 ≤ n) && l.all (· != 0)) := by
  rw [Bool.eq_iff_iff]
  simp only [TX.okHead, decide_eq_true_eq, Bool.and_eq_true, List.all_eq_true, bne_iff_ne]
  constructor
  · rintro ⟨a, b, c, d⟩; exact ⟨⟨by omega, by omega, d⟩, c⟩
  · rintro ⟨⟨a, b, d⟩, c⟩; exact ⟨by omega, by omega, c, d⟩
theorem roctal_11 (n : Nat) (w : World) (hn : n ≤ 9223372036854775807) : Calls Tryd.prog 50 #[I n, .int .i64 11] w fun e w' => e = .returned (S (TX.octL n 11)) ∧ Kept [] w w' := roctal_any n 11 w hn (by omega)
theorem roctal_6 (n : Nat) (w : World) (hn : n ≤ 9223372036854775807) : Calls Tryd.prog 50 #[I n, .int .i64 6] w fun e w' => e = .returned (S (TX.octL n 6)) ∧ Kept [] w w' := roctal_any n 6 w hn (by omega)
set_option maxHeartbeats 8000000 in
set_option maxRecDepth 100000 in
theorem rhead_any (l : List UInt8) (n : Int) (w : World) (hl : l.length ≤ 9223372036854775807) :
    Calls Tryd.prog 16 #[S l, I n] w fun e w' => e = .returned (VH (TX.headF l n)) ∧ Kept [] w w' := by
  have hok := okHead_all l n
  obtain ⟨base, hbase⟩ : ∃ b : Bool, decide (1 ≤ (l.length : Int) ∧ (l.length : Int) ≤ 100 ∧ 0 ≤ n) = b := ⟨_, rfl⟩
  have HO : Hid (TX.okHead l n = (base && l.all (· != 0))) := Lib.hid (by rw [hok, hbase])
  have HB := Lib.hid hbase
  clear hok hbase
  go_enter Tryd.func16, Tryd.ntmps16
  go_upto_region 1 with (fail)
  go_cut [6] from 9 (fun v wx => v = .bool base ∧ wx = w)
  case first =>
    go_wp2
    all_goals (go_meet; refine ⟨?_, rfl⟩)
    all_goals
      rw [← HB.out]
      first
        | (refine bool_t ?_; omega)
        | (refine bool_f ?_; omega)
        | (refine bool_d ?_; omega)
        | skip
  case rest =>
    obtain ⟨rfl, hwc⟩ := hcut
    replace hwc := hwc.symm
    subst hwc
    go_wp2_with (fail)
    go_loop [6, 7] (fun o i => ∃ p : Nat, p ≤ l.length ∧ i = I p ∧ o = .bool (base && (l.take p).all (· != 0))) (fun _ i => l.length - (intOf i).toNat)
    case atStart => exact ⟨0, by omega, rfl, by simp⟩
    case round =>
      obtain ⟨p, hp, rfl, rfl⟩ := hrel
      obtain ⟨v, hv⟩ : ∃ v : Bool, (base && (l.take p).all (· != 0)) = v := ⟨_, rfl⟩
      rw [hv]
      rcases Nat.eq_or_lt_of_le hp with he | hlt
      · have hv2 : TX.okHead l n = v := by rw [HO.out, ← hv, he, List.take_length]
        subst he
        clear hv
        cases v with
        | false =>
          have HR : Hid (VH (TX.headF l n) = VH ([], 200)) := Lib.hid (by unfold TX.headF; rw [if_pos hv2])
          clear hv2
          go_wp2
          go_returns
          exact ⟨by rw [HR.out] <;> rfl, Kept.refl _ _⟩
        | true =>
        have hk2 := (okHead_iff l n).1 hv2
        obtain ⟨a1, a2, a3, a4⟩ := hk2
        by_cases hlong : 1048576 < n
        · have HR : Hid (VH (TX.headF l n) = VH ([], 202)) := Lib.hid (by unfold TX.headF; rw [if_neg (by rw [hv2]; simp), if_pos hlong])
          clear hv2 a1 a2 a3 a4
          go_wp2
          go_returns
          exact ⟨by rw [HR.out] <;> rfl, Kept.refl _ _⟩
        have HR : Hid (VH (TX.headF l n) = VH (TX.headL l n.toNat, 0)) := Lib.hid (by unfold TX.headF; rw [if_neg (by rw [hv2]; simp), if_neg hlong])
        obtain ⟨k, rfl⟩ := Int.eq_ofNat_of_zero_le a4
        have hl100 : l.length ≤ 100 := by omega
        have hk9 : k ≤ 9223372036854775807 := by omega
        have hlong' : ¬ (1048576 : Int) < (k : Int) := hlong
        have hm : (Instr.makeSlice 31 (.int .i64 512) (.int .i64 512)).run Tryd.prog w = .ok (.slice (some ⟨w.heap.size, 0, none⟩) 512 512) (w.alloc (.cells (Lib.byteCells (zerosL 512)).toArray 5)) := make_bytes w 512 (by omega)
        have hrow : Row (w.alloc (.cells (Lib.byteCells (zerosL 512)).toArray 5)) w.heap.size (zerosL 512) := heap_new w _
        obtain ⟨W, hW⟩ : ∃ W, w.alloc (.cells (Lib.byteCells (zerosL 512)).toArray 5) = W := ⟨_, rfl⟩
        rw [hW] at hm hrow
        have Q0 : Hid (RW w w.heap.size (zerosL 512) W) := Lib.hid ⟨hrow, hW ▸ (Kept.refl [] w).alloc _, Nat.le_refl _, zerosL_len 512⟩
        have HL := Lib.hid hl100
        have hfit : 0 + l.length ≤ 512 := by omega
        have HF := Lib.hid hfit
        clear hv2 hlong hrow hW a1 a2 a3 a4 hl HO HB hfit hl100
        go_wp2_with (with_reducible refine wpList_copy_text rfl (.tmp 39) (.tmp 40) rfl w.heap.size 0 512 512 _ l ?_ ?_ Q0.out.row (by have := HL.out; omega) (Q0.out.fit (o := 0) HF.out) ?_)
        all_goals try rfl
        intro w1 hr hk
        have Q1 := Lib.hid (Q0.out.put 0 l HF.out hr hk)
        clear hr hk
        go_wp2_with (with_reducible refine wpList_copy_text rfl (.tmp 43) (.const (.string ⟨#[48, 48, 48, 48, 54, 52, 52]⟩)) rfl w.heap.size 100 412 412 _ TX.mode ?_ ?_ Q1.out.row (by simp [TX.mode]) (Q1.out.fit (o := 100) (by simp [TX.mode])) ?_)
        all_goals try rfl
        intro w2 hr hk
        have Q2 := Lib.hid (Q1.out.put 100 TX.mode (by simp [TX.mode]) hr hk)
        clear hr hk
        go_wp2_with (with_reducible refine wpList_copy_text rfl (.tmp 46) (.const (.string ⟨#[48, 48, 48, 48, 48, 48, 48]⟩)) rfl w.heap.size 108 404 404 _ TX.own0 ?_ ?_ Q2.out.row (by simp [TX.own0]) (Q2.out.fit (o := 108) (by simp [TX.own0])) ?_)
        all_goals try rfl
        intro w3 hr hk
        have Q3 := Lib.hid (Q2.out.put 108 TX.own0 (by simp [TX.own0]) hr hk)
        clear hr hk
        go_wp2_with (with_reducible refine wpList_copy_text rfl (.tmp 49) (.const (.string ⟨#[48, 48, 48, 48, 48, 48, 48]⟩)) rfl w.heap.size 116 396 396 _ TX.own0 ?_ ?_ Q3.out.row (by simp [TX.own0]) (Q3.out.fit (o := 116) (by simp [TX.own0])) ?_)
        all_goals try rfl
        intro w4 hr hk
        have Q4 := Lib.hid (Q3.out.put 116 TX.own0 (by simp [TX.own0]) hr hk)
        clear hr hk
        go_wp2_with (fail)
        have hle15 : (TX.octL k 11).length ≤ 388 := by rw [TX.octL_len]; omega
        have hf15 : 124 + (TX.octL k 11).length ≤ 512 := by rw [TX.octL_len]; omega
        have HK := Lib.hid hk9
        have i15 : (124 : Int) ≤ 512 := by omega
        clear hk9
        go_region_law (first
          | (refine step_copy_text rfl (.tmp 52) (.tmp 54) rfl w.heap.size 124 388 388 _ (TX.octL k 11) (by simp [Act.eval, Act.put]) (by simp [Act.eval, Act.put]) HC.out.row hle15 (HC.out.fit hf15) ?_; intro w6 hr hk)
          | (go_simp; go_at_call 50; (with_reducible refine (roctal_11 k _ HK.out).mono ?_); rintro e w5 ⟨rfl, k5⟩; have HC := Lib.hid (Q4.out.drew.go k5); clear k5))
        have Q6 := Lib.hid (HC.out.put 124 _ hf15 hr hk)
        clear hr hk HC hle15 hf15 i15 Q4
        go_wp2_with (with_reducible refine wpList_copy_text rfl (.tmp 57) (.const (.string ⟨#[48, 48, 48, 48, 48, 48, 48, 48, 48, 48, 48]⟩)) rfl w.heap.size 136 376 376 _ TX.time0 ?_ ?_ Q6.out.row (by simp [TX.time0]) (Q6.out.fit (o := 136) (by simp [TX.time0])) ?_)
        all_goals try rfl
        intro w7 hr hk
        have Q7 := Lib.hid (Q6.out.put 136 TX.time0 (by simp [TX.time0]) hr hk)
        clear hr hk
        have hc := Q7.out.row.cell 156 (by rw [Q7.out.len]; omega)
        have hf := Q7.out.row.free 156
        obtain ⟨v0, hv0⟩ : ∃ v0, B (byteAt (putL (putL (putL (putL (putL (putL (zerosL 512) 0 l) 100 TX.mode) 108 TX.own0) 116 TX.own0) 124 (TX.octL k 11)) 136 TX.time0) 156) = v0 := ⟨_, rfl⟩
        rw [hv0] at hc
        have Q8 : Hid (RW w w.heap.size _ (w7.setCell ⟨w.heap.size, 156, none⟩ (.int .u8 48))) := Lib.hid (Q7.out.one 156 48 (by omega))
        clear hv0
        go_wp2_with (with_reducible refine wpList_copy_text rfl (.tmp 62) (.const (.string ⟨#[117, 115, 116, 97, 114, 0, 48, 48]⟩)) rfl w.heap.size 257 255 255 _ mag8 ?_ ?_ Q8.out.row (by simp [mag8]) (Q8.out.fit (o := 257) (by simp [mag8])) ?_)
        all_goals try rfl
        intro w9 hr hk
        have Q9 := Lib.hid (Q8.out.put 257 mag8 (by simp [mag8]) hr hk)
        clear hr hk
        go_wp2_with (fail)
        have Q10 : Hid (RW w w.heap.size (puts l k) w9) := Lib.hid Q9.out
        obtain ⟨cur, hcur⟩ : ∃ c, puts l k = c := ⟨_, rfl⟩
        rw [hcur] at Q10
        have HC2 := Lib.hid hcur
        clear hcur Q6 Q7 Q8 Q9 hc hf
        obtain ⟨m, hm1⟩ : ∃ m, TX.sumTo cur 512 = m := ⟨_, rfl⟩
        have hm3 := TX.sumTo_le cur 512
        have hm4 : m ≤ 9223372036854775807 := by omega
        have hsum : ∀ W : World, RW w w.heap.size cur W → Calls Tryd.prog 51 #[.slice (some ⟨w.heap.size, 0, none⟩) 512 512] W fun e w' => e = .returned (I m) ∧ W = w' := fun W hW => by
          rw [← hm1]; exact rsum_any cur w.heap.size 512 W hW.len (fun i hi => hW.row.cell i (by rw [hW.len]; exact hi))
        have HS := Lib.hid hsum
        have HM := Lib.hid (And.intro hm1 hm4)
        have hl2 : (TX.octL m 6).length = 6 := TX.octL_len m 6
        have hle19 : (TX.octL m 6 ++ [0, 32]).length ≤ 364 := by simp [TX.octL_len]
        have hf19 : 148 + (TX.octL m 6 ++ [0, 32]).length ≤ 512 := by simp [TX.octL_len]
        clear hm1 hm3 hm4 hsum hm
        go_region_law (first
          | (refine step_copy_text rfl (.tmp 65) (.tmp 69) rfl w.heap.size 148 364 364 _ (TX.octL m 6 ++ [0, 32]) (by simp [Act.eval, Act.put]) (by simp [Act.eval, Act.put]) HD.out.row hle19 (HD.out.fit hf19) ?_; intro w12 hr hk)
          | (go_simp; go_at_call 51; (with_reducible refine (HS.out _ Q10.out.drew).mono ?_); rintro e w10 ⟨rfl, rfl⟩)
          | (go_simp; go_at_call 50; (with_reducible refine (roctal_6 m _ HM.out.2).mono ?_); rintro e w11 ⟨rfl, k11⟩; have HD := Lib.hid (Q10.out.drew.go k11); clear k11))
        have Q12 := Lib.hid (HD.out.put 148 _ hf19 hr hk)
        have hfin : putL cur 148 (TX.octL m 6 ++ [0, 32]) = TX.headL l k := by
          rw [← HM.out.1, ← HC2.out]; exact puts_head l k HL.out
        rw [hfin] at Q12
        have hcv := conv_row Q12.out.row 512
        rw [Q12.out.len] at hcv
        clear hr hk HD hfin hl2 hle19 hf19
        have hkn : ((k : Int)).toNat = k := Int.toNat_natCast k
        go_wp2
        go_returns
        exact ⟨by rw [HR.out, hkn] <;> rfl, Q12.out.kept⟩
      · have hlt' : (p : Int) < l.length := by omega
        have HV : Hid ((base && (l.take (p + 1)).all (· != 0)) = (v && (byteAt l p != 0))) := Lib.hid (by rw [all_step _ _ _ hlt, ← Bool.and_assoc, hv])
        clear hv
        cases v with
        | false =>
          go_wp2
          go_round
          case rel => exact ⟨p + 1, by omega, by go_num, by rw [HV.out]; rfl⟩
          case measure => (simp [intOf]; omega)
        | true =>
          have hz : (byteAt l p != 0) = (((byteAt l p).toNat : Int) != 0) := by
            rw [Bool.eq_iff_iff, bne_iff_ne, bne_iff_ne]
            constructor
            · intro h e; exact h (UInt8.toNat.inj (by simpa using e))
            · intro h e; apply h; rw [e]; rfl
          have HZ := Lib.hid hz
          clear hz
          go_wp2
          go_round
          case rel => exact ⟨p + 1, by omega, by go_num, by rw [HV.out, HZ.out]; rfl⟩
          case measure => (simp [intOf]; omega)
end Go.Proofs.YtgdioalhlmnhhaaDoor
