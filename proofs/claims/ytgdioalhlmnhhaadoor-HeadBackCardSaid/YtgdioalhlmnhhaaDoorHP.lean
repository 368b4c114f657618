/- Walks and lemmas on the program of this seat, used by its statements; each theorem bears its own conditions. -/
import Derived.Test.YtgdioalhlmnhhaaDoorHO
import Derived.Handy
import Derived.OwnWalk
import Derived.Deep.AppendLies
namespace Go.Proofs.YtgdioalhlmnhhaaDoor
open Go.RowKit
set_option linter.unusedVariables false
set_option linter.unusedSimpArgs false
set_option maxHeartbeats 8000000
set_option maxRecDepth 100000
/-! ### Report; the reference's Request and Report -/
theorem report_any (host target text : List UInt8) (w : World) (h3 : text.length ≤ 9223372036854775807) (hT : text.length < 100 ∨ PT w) (h1 : host.length ≤ 9223372036854775807) (h2 : target.length ≤ 9223372036854775807) (r : List UInt8 × Nat) (hr : repF host target text = r) :
    Calls Tryd.prog 37 #[S host, S target, S text] w fun e w' => e = .returned (.tuple #[S r.1, I r.2]) ∧ Kept [] w w' := by
  have HR := Lib.hid hr
  clear hr
  have HVh := Lib.hid (vis_any host w h1)
  have HVt := Lib.hid (vis_any target w h2)
  obtain ⟨bh, hbh⟩ : ∃ b, visB host = b := ⟨_, rfl⟩
  obtain ⟨bt, hbt⟩ : ∃ b, visB target = b := ⟨_, rfl⟩
  obtain ⟨b0, hb0⟩ : ∃ b, (byteAt target 0 == 47) = b := ⟨_, rfl⟩
  rw [hbh] at HVh
  rw [hbt] at HVt
  have HOK : Hid (okA host target = (bh && (bt && b0))) := Lib.hid (by unfold okA; rw [hbh, hbt, hb0])
  have hb0' := bne47 _ b0 hb0
  have HLH : Hid (bh = true → 1 ≤ host.length ∧ host.length ≤ 64) := Lib.hid fun h => vis_len (by rw [hbh, h])
  have HLT : Hid (bt = true → 1 ≤ target.length ∧ target.length ≤ 64) := Lib.hid fun h => vis_len (by rw [hbt, h])
  clear hbh hbt hb0
  cases bh with
  | false =>
    have HF : Hid (r = ([], 170)) := Lib.hid (by rw [← HR.out]; unfold repF; rw [HOK.out]; simp)
    go_enter Tryd.func37, Tryd.ntmps37
    go_wp2_with (first
      | (go_at_call 68; (with_reducible refine HVh.out.mono ?_); rintro x w5 ⟨rfl, rfl⟩)
      | (go_at_call 68; (with_reducible refine HVt.out.mono ?_); rintro x w5 ⟨rfl, rfl⟩))
    all_goals (go_returns; exact ⟨by rw [HF.out] <;> rfl, Kept.refl _ _⟩)
  | true =>
  cases bt with
  | false =>
    have HF : Hid (r = ([], 170)) := Lib.hid (by rw [← HR.out]; unfold repF; rw [HOK.out]; simp)
    go_enter Tryd.func37, Tryd.ntmps37
    go_wp2_with (first
      | (go_at_call 68; (with_reducible refine HVh.out.mono ?_); rintro x w5 ⟨rfl, rfl⟩)
      | (go_at_call 68; (with_reducible refine HVt.out.mono ?_); rintro x w5 ⟨rfl, rfl⟩))
    all_goals (go_returns; exact ⟨by rw [HF.out] <;> rfl, Kept.refl _ _⟩)
  | true =>
  cases b0 with
  | false =>
    have HF : Hid (r = ([], 170)) := Lib.hid (by rw [← HR.out]; unfold repF; rw [HOK.out]; simp)
    have htl := (HLT.out rfl).1
    have htl' : (1 : Int) ≤ target.length := by omega
    have htl2 : (0 : Int) < target.length := by omega
    have hb0'' : (((byteAt target 0).toNat : Int) != 47) = true := hb0'
    clear hb0'
    go_enter Tryd.func37, Tryd.ntmps37
    go_wp2_with (first
      | (go_at_call 68; (with_reducible refine HVh.out.mono ?_); rintro x w5 ⟨rfl, rfl⟩)
      | (go_at_call 68; (with_reducible refine HVt.out.mono ?_); rintro x w5 ⟨rfl, rfl⟩))
    all_goals (go_returns; exact ⟨by rw [HF.out] <;> rfl, Kept.refl _ _⟩)
  | true =>
  have htl := HLT.out rfl
  have htl2 : (0 : Int) < target.length := by omega
  have htl3 : (target.length : Int) ≤ 64 := by omega
  have hhl := HLH.out rfl
  have hhl3 : (host.length : Int) ≤ 64 := by omega
  have hb0'' : (((byteAt target 0).toNat : Int) != 47) = false := hb0'
  clear hb0'
  by_cases hk0 : text.length ≤ 4096
  case neg =>
    have HF : Hid (r = ([], 170)) := Lib.hid (by rw [← HR.out]; unfold repF; rw [HOK.out, decide_eq_false hk0]; rfl)
    have hk0' : (text.length : Int) > 4096 := by omega
    have hk3 : (text.length : Int) ≤ 9223372036854775807 := by omega
    clear hk0
    go_enter Tryd.func37, Tryd.ntmps37
    go_wp2_with (first
      | (go_at_call 68; (with_reducible refine HVh.out.mono ?_); rintro x w5 ⟨rfl, rfl⟩)
      | (go_at_call 68; (with_reducible refine HVt.out.mono ?_); rintro x w5 ⟨rfl, rfl⟩))
    all_goals (go_returns; exact ⟨by rw [HF.out] <;> rfl, Kept.refl _ _⟩)
  have hk0' : ¬ (text.length : Int) > 4096 := by omega
  obtain ⟨n, hn⟩ : ∃ n : Nat, text.length = n := ⟨_, rfl⟩
  have HF : Hid (r = (repL host target text, 0)) := Lib.hid (by rw [← HR.out]; unfold repF; rw [HOK.out, decide_eq_true hk0]; rfl)
  rw [hn] at hT hk0 hk0' h3
  have HTT := Lib.hid hT
  have HN := Lib.hid hn
  obtain ⟨x1, hx1⟩ : ∃ x1, [80, 79, 83, 84, 32] ++ target ++ [32, 72, 84, 84, 80, 47, 49, 46, 49] = x1 := ⟨_, rfl⟩
  obtain ⟨x2, hx2⟩ : ∃ x2, [72, 111, 115, 116, 58, 32] ++ host = x2 := ⟨_, rfl⟩
  obtain ⟨x3, hx3⟩ : ∃ x3, [67, 111, 110, 116, 101, 110, 116, 45, 76, 101, 110, 103, 116, 104, 58, 32] ++ Lib.decDigits n = x3 := ⟨_, rfl⟩
  obtain ⟨z, hz⟩ : ∃ z, linesL [x1, x2, x3, clo, []] = z := ⟨_, rfl⟩
  have HF2 : Hid (z ++ text = repL host target text) := Lib.hid (by rw [← hz, ← hx1, ← hx2, ← hx3]; unfold repL linesL; rw [hn]; simp [List.intercalate, List.intersperse, clo])
  have hd := dec_len20 n (by omega)
  have hzl : z.length ≤ 400 := by rw [← hz, ← hx1, ← hx2, ← hx3]; unfold linesL; simp [List.intercalate, List.intersperse, clo]; omega
  have hil : (([13, 10] : List UInt8).intercalate [x1, x2, x3, clo, []]).length ≤ 1000000 := by
    have h9 : (([13, 10] : List UInt8).intercalate [x1, x2, x3, clo, []]).length ≤ z.length := by rw [← hz]; unfold linesL; simp
    omega
  have HL3 := Lib.hid hil
  clear hil
  have HZ := Lib.hid hz
  have hzl' : (z.length : Int) ≤ 400 := by omega
  have hx1' : 80 :: 79 :: 83 :: 84 :: 32 :: (target ++ [32, 72, 84, 84, 80, 47, 49, 46, 49]) = x1 := by rw [← hx1]; simp
  have hx2' : 72 :: 111 :: 115 :: 116 :: 58 :: 32 :: host = x2 := by rw [← hx2]; simp
  have hdl : ((Lib.decDigits n).length : Int) ≤ 19 := by omega
  have HIt := Lib.hid (itoa_any n w (by omega) HTT.out)
  have hx3' : 67 :: 111 :: 110 :: 116 :: 101 :: 110 :: 116 :: 45 :: 76 :: 101 :: 110 :: 103 :: 116 :: 104 :: 58 :: 32 :: (Lib.decDigits n) = x3 := by rw [← hx3]; simp
  obtain ⟨dd, hdd⟩ : ∃ dd, Lib.decDigits n = dd := ⟨_, rfl⟩
  rw [hdd] at HIt hx3' hdl
  clear hx1 hx2 hx3 hz hdd hd hT hzl hk0
  have hnI : (text.length : Int) = (n : Int) := by omega
  clear hn
  go_enter Tryd.func37, Tryd.ntmps37
  go_wp2_with (first
    | (go_at_call 68; (with_reducible refine HVh.out.mono ?_); rintro x w5 ⟨rfl, rfl⟩)
    | (go_at_call 68; (with_reducible refine HVt.out.mono ?_); rintro x w5 ⟨rfl, rfl⟩)
    | (go_at_call 58
       (with_reducible refine HIt.out.mono ?_)
       rintro x w5 ⟨rfl, k5⟩
       have H5 := Lib.hid k5
       clear k5))
  have HOT : OwnT w.heap.size (w5.alloc (.cells #[S x1, S x2, S x3, S clo, S []] 9)) (.slice (some ⟨w5.heap.size, 0, none⟩) 5 5) [x1, x2, x3, clo, []] := OwnT.new (ns := [x1, x2, x3, clo, []]) (heap_new w5 _) H5.out.size (by simp)
  refine (lines_own HOT (by simp) HL3.out _ HZ.out).mono ?_
  rintro e w6 ⟨rfl, k6⟩
  have HK6 := Lib.hid ((H5.out.alloc (.cells #[S x1, S x2, S x3, S clo, S []] 9)).trans' k6)
  clear k6 HOT
  go_wp2_with (fail)
  go_returns
  exact ⟨by rw [HF.out, ← HF2.out] <;> rfl, HK6.out⟩
theorem rrequest_any (host target : List UInt8) (k : Int) (w : World) (hk1 : -9223372036854775808 ≤ k) (hk2 : k ≤ 9223372036854775807) (h1 : host.length ≤ 9223372036854775807) (h2 : target.length ≤ 9223372036854775807) (r : List UInt8 × Nat) (hr : reqF host target k = r) :
    Calls Tryd.prog 36 #[S host, S target, I k] w fun e w' => e = .returned (.tuple #[S r.1, I r.2]) ∧ Kept [] w w' := by
  have HR := Lib.hid hr
  clear hr
  have HVh := Lib.hid (seen_any host w h1)
  have HVt := Lib.hid (seen_any target w h2)
  obtain ⟨bh, hbh⟩ : ∃ b, visB host = b := ⟨_, rfl⟩
  obtain ⟨bt, hbt⟩ : ∃ b, visB target = b := ⟨_, rfl⟩
  obtain ⟨b0, hb0⟩ : ∃ b, (byteAt target 0 == 47) = b := ⟨_, rfl⟩
  rw [hbh] at HVh
  rw [hbt] at HVt
  have HOK : Hid (okA host target = (bh && (bt && b0))) := Lib.hid (by unfold okA; rw [hbh, hbt, hb0])
  have hb0' := bne47 _ b0 hb0
  have HLH : Hid (bh = true → 1 ≤ host.length ∧ host.length ≤ 64) := Lib.hid fun h => vis_len (by rw [hbh, h])
  have HLT : Hid (bt = true → 1 ≤ target.length ∧ target.length ≤ 64) := Lib.hid fun h => vis_len (by rw [hbt, h])
  clear hbh hbt hb0
  cases bh with
  | false =>
    have HF : Hid (r = ([], 170)) := Lib.hid (by rw [← HR.out]; unfold reqF; rw [HOK.out]; simp)
    go_enter Tryd.func36, Tryd.ntmps36
    go_wp2_with (first
      | (go_at_call 70; (with_reducible refine HVh.out.mono ?_); rintro x w5 ⟨rfl, rfl⟩)
      | (go_at_call 70; (with_reducible refine HVt.out.mono ?_); rintro x w5 ⟨rfl, rfl⟩))
    all_goals (go_returns; exact ⟨by rw [HF.out] <;> rfl, Kept.refl _ _⟩)
  | true =>
  cases bt with
  | false =>
    have HF : Hid (r = ([], 170)) := Lib.hid (by rw [← HR.out]; unfold reqF; rw [HOK.out]; simp)
    go_enter Tryd.func36, Tryd.ntmps36
    go_wp2_with (first
      | (go_at_call 70; (with_reducible refine HVh.out.mono ?_); rintro x w5 ⟨rfl, rfl⟩)
      | (go_at_call 70; (with_reducible refine HVt.out.mono ?_); rintro x w5 ⟨rfl, rfl⟩))
    all_goals (go_returns; exact ⟨by rw [HF.out] <;> rfl, Kept.refl _ _⟩)
  | true =>
  cases b0 with
  | false =>
    have HF : Hid (r = ([], 170)) := Lib.hid (by rw [← HR.out]; unfold reqF; rw [HOK.out]; simp)
    have htl := (HLT.out rfl).1
    have htl' : (1 : Int) ≤ target.length := by omega
    have htl2 : (0 : Int) < target.length := by omega
    have hb0'' : (((byteAt target 0).toNat : Int) != 47) = true := hb0'
    clear hb0'
    go_enter Tryd.func36, Tryd.ntmps36
    go_wp2_with (first
      | (go_at_call 70; (with_reducible refine HVh.out.mono ?_); rintro x w5 ⟨rfl, rfl⟩)
      | (go_at_call 70; (with_reducible refine HVt.out.mono ?_); rintro x w5 ⟨rfl, rfl⟩))
    all_goals (go_returns; exact ⟨by rw [HF.out] <;> rfl, Kept.refl _ _⟩)
  | true =>
  have htl := HLT.out rfl
  have htl2 : (0 : Int) < target.length := by omega
  have htl3 : (target.length : Int) ≤ 64 := by omega
  have hhl := HLH.out rfl
  have hhl3 : (host.length : Int) ≤ 64 := by omega
  have hb0'' : (((byteAt target 0).toNat : Int) != 47) = false := hb0'
  clear hb0'
  by_cases hk0 : 0 ≤ k
  case neg =>
    have HF : Hid (r = ([], 170)) := Lib.hid (by rw [← HR.out]; unfold reqF; rw [HOK.out, decide_eq_false hk0]; rfl)
    have hk0' : k < 0 := by omega
    go_enter Tryd.func36, Tryd.ntmps36
    go_wp2_with (first
      | (go_at_call 70; (with_reducible refine HVh.out.mono ?_); rintro x w5 ⟨rfl, rfl⟩)
      | (go_at_call 70; (with_reducible refine HVt.out.mono ?_); rintro x w5 ⟨rfl, rfl⟩))
    all_goals (go_returns; exact ⟨by rw [HF.out] <;> rfl, Kept.refl _ _⟩)
  have hk0' : ¬ k < 0 := by omega
  obtain ⟨n, rfl⟩ : ∃ n : Nat, k = (n : Int) := ⟨k.toNat, by omega⟩
  have HF : Hid (r = (reqL host target n, 0)) := Lib.hid (by rw [← HR.out]; unfold reqF; rw [HOK.out, decide_eq_true hk0]; rfl)
  obtain ⟨x1, hx1⟩ : ∃ x1, [71, 69, 84, 32] ++ target ++ [32, 72, 84, 84, 80, 47, 49, 46, 49, 13, 10, 72, 111, 115, 116, 58, 32] ++ host ++ [13, 10] = x1 := ⟨_, rfl⟩
  have hx1l : x1.length ≤ 200 := by rw [← hx1]; simp; omega
  have hx1I : (x1.length : Int) ≤ 200 := by omega
  have HX1 := Lib.hid hx1
  clear hx1 hx1l
  by_cases hn0 : 0 < n
  · have hn0' : (n : Int) > 0 := by omega
    have HNu := Lib.hid (num_ref n w (by omega))
    have HF2 : Hid (reqL host target n = x1 ++ (([82, 97, 110, 103, 101, 58, 32, 98, 121, 116, 101, 115, 61] ++ Lib.decDigits n) ++ [45, 13, 10]) ++ (clo ++ [13, 10, 13, 10])) := Lib.hid (by rw [← HX1.out]; unfold reqL; rw [if_pos hn0] <;> simp)
    have hdl : ((Lib.decDigits n).length : Int) ≤ 19 := by have := dec_len20 n (by omega); omega
    obtain ⟨dd, hdd⟩ : ∃ dd, Lib.decDigits n = dd := ⟨_, rfl⟩
    rw [hdd] at HNu hdl HF2
    clear hdd
    go_enter Tryd.func36, Tryd.ntmps36
    go_wp2_with (first
      | (go_at_call 70; (with_reducible refine HVh.out.mono ?_); rintro x w5 ⟨rfl, rfl⟩)
      | (go_at_call 70; (with_reducible refine HVt.out.mono ?_); rintro x w5 ⟨rfl, rfl⟩)
      | (go_at_call 43; (with_reducible refine HNu.out.mono ?_); rintro x w5 ⟨rfl, k5⟩; have H5 := Lib.hid k5; clear k5))
    go_returns
    exact ⟨by rw [HF.out, HF2.out, ← HX1.out]; simp [clo], H5.out⟩
  · have hn0' : ¬ (n : Int) > 0 := by omega
    have HF2 : Hid (reqL host target n = x1 ++ (clo ++ [13, 10, 13, 10])) := Lib.hid (by rw [← HX1.out]; unfold reqL; rw [if_neg hn0]; simp)
    go_enter Tryd.func36, Tryd.ntmps36
    go_wp2_with (first
      | (go_at_call 70; (with_reducible refine HVh.out.mono ?_); rintro x w5 ⟨rfl, rfl⟩)
      | (go_at_call 70; (with_reducible refine HVt.out.mono ?_); rintro x w5 ⟨rfl, rfl⟩))
    go_returns
    exact ⟨by rw [HF.out, HF2.out, ← HX1.out]; simp [clo], Kept.refl _ _⟩
theorem rreport_any (host target text : List UInt8) (w : World) (h3 : text.length ≤ 9223372036854775807) (h1 : host.length ≤ 9223372036854775807) (h2 : target.length ≤ 9223372036854775807) (r : List UInt8 × Nat) (hr : repF host target text = r) :
    Calls Tryd.prog 38 #[S host, S target, S text] w fun e w' => e = .returned (.tuple #[S r.1, I r.2]) ∧ Kept [] w w' := by
  have HR := Lib.hid hr
  clear hr
  have HVh := Lib.hid (seen_any host w h1)
  have HVt := Lib.hid (seen_any target w h2)
  obtain ⟨bh, hbh⟩ : ∃ b, visB host = b := ⟨_, rfl⟩
  obtain ⟨bt, hbt⟩ : ∃ b, visB target = b := ⟨_, rfl⟩
  obtain ⟨b0, hb0⟩ : ∃ b, (byteAt target 0 == 47) = b := ⟨_, rfl⟩
  rw [hbh] at HVh
  rw [hbt] at HVt
  have HOK : Hid (okA host target = (bh && (bt && b0))) := Lib.hid (by unfold okA; rw [hbh, hbt, hb0])
  have hb0' := bne47 _ b0 hb0
  have HLH : Hid (bh = true → 1 ≤ host.length ∧ host.length ≤ 64) := Lib.hid fun h => vis_len (by rw [hbh, h])
  have HLT : Hid (bt = true → 1 ≤ target.length ∧ target.length ≤ 64) := Lib.hid fun h => vis_len (by rw [hbt, h])
  clear hbh hbt hb0
  cases bh with
  | false =>
    have HF : Hid (r = ([], 170)) := Lib.hid (by rw [← HR.out]; unfold repF; rw [HOK.out]; simp)
    go_enter Tryd.func38, Tryd.ntmps38
    go_wp2_with (first
      | (go_at_call 70; (with_reducible refine HVh.out.mono ?_); rintro x w5 ⟨rfl, rfl⟩)
      | (go_at_call 70; (with_reducible refine HVt.out.mono ?_); rintro x w5 ⟨rfl, rfl⟩))
    all_goals (go_returns; exact ⟨by rw [HF.out] <;> rfl, Kept.refl _ _⟩)
  | true =>
  cases bt with
  | false =>
    have HF : Hid (r = ([], 170)) := Lib.hid (by rw [← HR.out]; unfold repF; rw [HOK.out]; simp)
    go_enter Tryd.func38, Tryd.ntmps38
    go_wp2_with (first
      | (go_at_call 70; (with_reducible refine HVh.out.mono ?_); rintro x w5 ⟨rfl, rfl⟩)
      | (go_at_call 70; (with_reducible refine HVt.out.mono ?_); rintro x w5 ⟨rfl, rfl⟩))
    all_goals (go_returns; exact ⟨by rw [HF.out] <;> rfl, Kept.refl _ _⟩)
  | true =>
  cases b0 with
  | false =>
    have HF : Hid (r = ([], 170)) := Lib.hid (by rw [← HR.out]; unfold repF; rw [HOK.out]; simp)
    have htl := (HLT.out rfl).1
    have htl' : (1 : Int) ≤ target.length := by omega
    have htl2 : (0 : Int) < target.length := by omega
    have hb0'' : (((byteAt target 0).toNat : Int) != 47) = true := hb0'
    clear hb0'
    go_enter Tryd.func38, Tryd.ntmps38
    go_wp2_with (first
      | (go_at_call 70; (with_reducible refine HVh.out.mono ?_); rintro x w5 ⟨rfl, rfl⟩)
      | (go_at_call 70; (with_reducible refine HVt.out.mono ?_); rintro x w5 ⟨rfl, rfl⟩))
    all_goals (go_returns; exact ⟨by rw [HF.out] <;> rfl, Kept.refl _ _⟩)
  | true =>
  have htl := HLT.out rfl
  have htl2 : (0 : Int) < target.length := by omega
  have htl3 : (target.length : Int) ≤ 64 := by omega
  have hhl := HLH.out rfl
  have hhl3 : (host.length : Int) ≤ 64 := by omega
  have hb0'' : (((byteAt target 0).toNat : Int) != 47) = false := hb0'
  clear hb0'
  by_cases hk0 : text.length ≤ 4096
  case neg =>
    have HF : Hid (r = ([], 170)) := Lib.hid (by rw [← HR.out]; unfold repF; rw [HOK.out, decide_eq_false hk0]; rfl)
    have hk0' : (text.length : Int) > 4096 := by omega
    have hk3 : (text.length : Int) ≤ 9223372036854775807 := by omega
    clear hk0
    go_enter Tryd.func38, Tryd.ntmps38
    go_wp2_with (first
      | (go_at_call 70; (with_reducible refine HVh.out.mono ?_); rintro x w5 ⟨rfl, rfl⟩)
      | (go_at_call 70; (with_reducible refine HVt.out.mono ?_); rintro x w5 ⟨rfl, rfl⟩))
    all_goals (go_returns; exact ⟨by rw [HF.out] <;> rfl, Kept.refl _ _⟩)
  have hk0' : ¬ (text.length : Int) > 4096 := by omega
  have HF : Hid (r = (repL host target text, 0)) := Lib.hid (by rw [← HR.out]; unfold repF; rw [HOK.out, decide_eq_true hk0]; rfl)
  have HNu := Lib.hid (num_ref text.length w (by omega))
  have hdl : ((Lib.decDigits text.length).length : Int) ≤ 19 := by have := dec_len20 text.length (by omega); omega
  obtain ⟨dd, hdd⟩ : ∃ dd, Lib.decDigits text.length = dd := ⟨_, rfl⟩
  have HDD := Lib.hid hdd
  rw [hdd] at HNu hdl
  clear hdd hk0
  go_enter Tryd.func38, Tryd.ntmps38
  go_wp2_with (first
      | (go_at_call 70; (with_reducible refine HVh.out.mono ?_); rintro x w5 ⟨rfl, rfl⟩)
      | (go_at_call 70; (with_reducible refine HVt.out.mono ?_); rintro x w5 ⟨rfl, rfl⟩)
      | (go_at_call 43; (with_reducible refine HNu.out.mono ?_); rintro x w5 ⟨rfl, k5⟩; have H5 := Lib.hid k5; clear k5))
  go_returns
  exact ⟨by rw [HF.out]; unfold repL; rw [HDD.out]; simp [clo], H5.out⟩
end Go.Proofs.YtgdioalhlmnhhaaDoor
