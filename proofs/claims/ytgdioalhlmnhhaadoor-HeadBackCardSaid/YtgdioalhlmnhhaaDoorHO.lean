/- Walks and lemmas on the program of this seat, used by its statements; each theorem bears its own conditions. -/
import Derived.Test.YtgdioalhlmnhhaaDoorHM
import Derived.Handy
import Derived.OwnWalk
import Derived.Deep.AppendLies
namespace Go.Proofs.YtgdioalhlmnhhaaDoor
open Go.RowKit
set_option linter.unusedVariables false
set_option linter.unusedSimpArgs false
set_option maxHeartbeats 8000000
set_option maxRecDepth 100000
/-! ### Request, Report -/
theorem request_any (host target : List UInt8) (k : Int) (w : World) (hk1 : -9223372036854775808 ≤ k) (hk2 : k ≤ 9223372036854775807) (hT : k < 100 ∨ PT w) (h1 : host.length ≤ 9223372036854775807) (h2 : target.length ≤ 9223372036854775807) (r : List UInt8 × Nat) (hr : reqF host target k = r) :
    Calls Tryd.prog 35 #[S host, S target, I k] w fun e w' => e = .returned (.tuple #[S r.1, I r.2]) ∧ Kept [] w w' := by
  have HR := Lib.hid hr
  clear hr
  have HVh := Lib.hid (vis_any host w h1)
  have HVt := Lib.hid (vis_any target w h2)
  obtain ⟨bh, hbh⟩ : ∃ b, visB host = b := ⟨_, rfl⟩
  obtain ⟨bt, hbt⟩ : ∃ b, visB target = b := ⟨_, rfl⟩
  obtain ⟨b0, hb0⟩ : ∃ b, (byteAt target 0 == 47) = b := ⟨_, rfl⟩
  rw [hbh] at HVh
  rw [hbt] at HVt
  have HOK : Hid (okA host target = (bh && (bt && b0))) := Lib.hid (by unfold okA; rw [hbh, hbt, hb0])
  have hb0' := bne47 _ b0 hb0
  have HLH : Hid (bh = true → 1 ≤ host.length ∧ host.length ≤ 64) := Lib.hid fun h => vis_len (by rw [hbh, h])
  have HLT : Hid (bt = true → 1 ≤ target.length ∧ target.length ≤ 64) := Lib.hid fun h => vis_len (by rw [hbt, h])
  clear hbh hbt hb0
  cases bh with
  | false =>
    have HF : Hid (r = ([], 170)) := Lib.hid (by rw [← HR.out]; unfold reqF; rw [HOK.out]; simp)
    go_enter Tryd.func35, Tryd.ntmps35
    go_wp2_with (first
      | (go_at_call 68; (with_reducible refine HVh.out.mono ?_); rintro x w5 ⟨rfl, rfl⟩)
      | (go_at_call 68; (with_reducible refine HVt.out.mono ?_); rintro x w5 ⟨rfl, rfl⟩))
    all_goals (go_returns; exact ⟨by rw [HF.out] <;> rfl, Kept.refl _ _⟩)
  | true =>
  cases bt with
  | false =>
    have HF : Hid (r = ([], 170)) := Lib.hid (by rw [← HR.out]; unfold reqF; rw [HOK.out]; simp)
    go_enter Tryd.func35, Tryd.ntmps35
    go_wp2_with (first
      | (go_at_call 68; (with_reducible refine HVh.out.mono ?_); rintro x w5 ⟨rfl, rfl⟩)
      | (go_at_call 68; (with_reducible refine HVt.out.mono ?_); rintro x w5 ⟨rfl, rfl⟩))
    all_goals (go_returns; exact ⟨by rw [HF.out] <;> rfl, Kept.refl _ _⟩)
  | true =>
  cases b0 with
  | false =>
    have HF : Hid (r = ([], 170)) := Lib.hid (by rw [← HR.out]; unfold reqF; rw [HOK.out]; simp)
    have htl := (HLT.out rfl).1
    have htl' : (1 : Int) ≤ target.length := by omega
    have htl2 : (0 : Int) < target.length := by omega
    have hb0'' : (((byteAt target 0).toNat : Int) != 47) = true := hb0'
    clear hb0'
    go_enter Tryd.func35, Tryd.ntmps35
    go_wp2_with (first
      | (go_at_call 68; (with_reducible refine HVh.out.mono ?_); rintro x w5 ⟨rfl, rfl⟩)
      | (go_at_call 68; (with_reducible refine HVt.out.mono ?_); rintro x w5 ⟨rfl, rfl⟩))
    all_goals (go_returns; exact ⟨by rw [HF.out] <;> rfl, Kept.refl _ _⟩)
  | true =>
  have htl := HLT.out rfl
  have htl2 : (0 : Int) < target.length := by omega
  have htl3 : (target.length : Int) ≤ 64 := by omega
  have hhl := HLH.out rfl
  have hhl3 : (host.length : Int) ≤ 64 := by omega
  have hb0'' : (((byteAt target 0).toNat : Int) != 47) = false := hb0'
  clear hb0'
  by_cases hk0 : 0 ≤ k
  case neg =>
    have HF : Hid (r = ([], 170)) := Lib.hid (by rw [← HR.out]; unfold reqF; rw [HOK.out, decide_eq_false hk0]; rfl)
    have hk0' : k < 0 := by omega
    go_enter Tryd.func35, Tryd.ntmps35
    go_wp2_with (first
      | (go_at_call 68; (with_reducible refine HVh.out.mono ?_); rintro x w5 ⟨rfl, rfl⟩)
      | (go_at_call 68; (with_reducible refine HVt.out.mono ?_); rintro x w5 ⟨rfl, rfl⟩))
    all_goals (go_returns; exact ⟨by rw [HF.out] <;> rfl, Kept.refl _ _⟩)
  have hk0' : ¬ k < 0 := by omega
  obtain ⟨n, rfl⟩ : ∃ n : Nat, k = (n : Int) := ⟨k.toNat, by omega⟩
  have HF : Hid (r = (reqL host target n, 0)) := Lib.hid (by rw [← HR.out]; unfold reqF; rw [HOK.out, decide_eq_true hk0]; rfl)
  have HTT : Hid (n < 100 ∨ PT w) := Lib.hid (hT.imp (fun h => by omega) id)
  obtain ⟨i0, hi, hz0, hz1, hz2⟩ := info_parts str_info
  obtain ⟨x1, hx1⟩ : ∃ x1, [71, 69, 84, 32] ++ target ++ [32, 72, 84, 84, 80, 47, 49, 46, 49] = x1 := ⟨_, rfl⟩
  obtain ⟨x2, hx2⟩ : ∃ x2, [72, 111, 115, 116, 58, 32] ++ host = x2 := ⟨_, rfl⟩
  have hx1l : x1.length ≤ 77 := by rw [← hx1]; simp; omega
  have hx2l : x2.length ≤ 70 := by rw [← hx2]; simp; omega
  have HX := Lib.hid (And.intro hx1 (And.intro hx2 (And.intro hx1l hx2l)))
  have HB2 : Hid (OwnT w.heap.size (w.alloc (.cells #[S x1, S x2] 9)) (.slice (some ⟨w.heap.size, 0, none⟩) 2 2) [x1, x2]) := Lib.hid (OwnT.new (ns := [x1, x2]) (heap_new w _) (Nat.le_refl _) (by simp))
  clear hT hx1l hx2l
  have hx1' : 71 :: 69 :: 84 :: 32 :: (target ++ [32, 72, 84, 84, 80, 47, 49, 46, 49]) = x1 := by rw [← hx1]; simp
  have hx2' : 72 :: 111 :: 115 :: 116 :: 58 :: 32 :: host = x2 := by rw [← hx2]; simp
  clear hx1 hx2
  obtain ⟨A, hA⟩ : ∃ A, w.alloc (.cells #[S x1, S x2] 9) = A := ⟨_, rfl⟩
  rw [hA] at HB2
  have HKA : Hid (Kept [] w A) := Lib.hid (by rw [← hA]; exact (Kept.refl _ _).alloc _)
  have HSA : Hid (A.heap.size = w.heap.size + 1) := Lib.hid (by rw [← hA]; simp)
  by_cases hn0 : 0 < n
  · have hn0' : (n : Int) > 0 := by omega
    obtain ⟨x3, hx3⟩ : ∃ x3, [82, 97, 110, 103, 101, 58, 32, 98, 121, 116, 101, 115, 61] ++ Lib.decDigits n ++ [45] = x3 := ⟨_, rfl⟩
    have HF2 : Hid (linesL [x1, x2, x3, clo, []] = reqL host target n) := Lib.hid (by rw [← hx1', ← hx2', ← hx3]; unfold reqL linesL; rw [if_pos hn0]; simp [List.intercalate, List.intersperse, clo])
    have hx3l : x3.length ≤ 40 := by rw [← hx3]; have := dec_len20 n (by omega); simp; omega
    have HL3 : Hid ((([13, 10] : List UInt8).intercalate [x1, x2, x3, clo, []]).length ≤ 1000000) := Lib.hid (by have := HX.out.2.2; simp [List.intercalate, List.intersperse, clo]; omega)
    have HIt := Lib.hid (itoa_any n A (by omega) (HTT.out.imp id (fun h => h.kept HKA.out)))
    have hx3' : 82 :: 97 :: 110 :: 103 :: 101 :: 58 :: 32 :: 98 :: 121 :: 116 :: 101 :: 115 :: 61 :: (Lib.decDigits n ++ [45]) = x3 := by rw [← hx3]; simp
    have hdl : ((Lib.decDigits n).length : Int) ≤ 19 := by have := dec_len20 n (by omega); omega
    obtain ⟨dd, hdd⟩ : ∃ dd, Lib.decDigits n = dd := ⟨_, rfl⟩
    rw [hdd] at HIt hx3' hdl
    clear hx3 hx3l hdd
    go_enter Tryd.func35, Tryd.ntmps35
    go_wp2_with (first
      | (go_at_call 68; (with_reducible refine HVh.out.mono ?_); rintro x w5 ⟨rfl, rfl⟩)
      | (go_at_call 68; (with_reducible refine HVt.out.mono ?_); rintro x w5 ⟨rfl, rfl⟩)
      | (go_at_call 58
         (with_reducible refine HIt.out.mono ?_)
         rintro x w5 ⟨rfl, k5⟩
         have HO5 := Lib.hid (And.intro (HB2.out.kept k5) (HKA.out.trans' k5))
         clear k5)
      | (at_builtin
         refine wpList_append_lies _ rfl (.tmp 34) (.tmp 39) _ rfl w.heap.size 9 i0 (.string ⟨#[]⟩) 1 16 Tryd.underlying47 hi hz0 hz1 hz2 rfl (by decide) (.slice (some ⟨w.heap.size, 0, none⟩) 2 2) 2 [S x1, S x2] rfl (HO5.out.1.kept ((Kept.refl _ _).alloc _)) ⟨w5.heap.size, 0, none⟩ 1 1 [S x3] rfl rfl (World.news_of_block (heap_new w5 _)) (by intro u hu; simp at hu; rcases hu with rfl; rfl) (by decide) (by unfold maxLen; omega) (by omega) (by have := HO5.out.2.size; simp; omega) _ rfl ?_
         intro g cap wa own1 gr1 hat hlt
         have HOA : Hid (OwnT w.heap.size wa (.slice (some ⟨g, 0, none⟩) (2 + 1) cap) [x1, x2, x3]) := Lib.hid own1
         have HKA2 : Hid (Kept [] w wa) := Lib.hid ((HO5.out.2.alloc (.cells #[S x3] 9)).grown gr1 (fun q hq => by cases hq; exact Nat.le_refl _))
         clear own1 gr1 hat hlt)
      | (at_builtin
         refine wpList_append_lies _ rfl (.tmp 41) (.tmp 42) _ rfl w.heap.size 9 i0 (.string ⟨#[]⟩) 1 16 Tryd.underlying47 hi hz0 hz1 hz2 rfl (by decide) (.slice (some ⟨g, 0, none⟩) (2 + 1) cap) 3 [S x1, S x2, S x3] rfl (HOA.out.kept ((Kept.refl _ _).alloc _)) ⟨wa.heap.size, 0, none⟩ 2 2 [S clo, S []] rfl rfl (World.news_of_block (heap_new wa _)) (by intro u hu; simp at hu; rcases hu with rfl | rfl <;> rfl) (by decide) (by unfold maxLen; omega) (by omega) (by have := HKA2.out.size; simp; omega) _ rfl ?_
         intro g2 cap2 wb own2 gr2 hat2 hlt2
         have HO := Lib.hid own2
         have HKW : Hid (Kept [] w wb) := Lib.hid ((HKA2.out.alloc (.cells #[S clo, S []] 9)).grown gr2 (fun q hq => by have := (HOA.out.lt q hq).1; omega))
         clear own2 gr2 hat2 hlt2))
    have HOT : OwnT w.heap.size wb (.slice (some ⟨g2, 0, none⟩) 5 cap2) [x1, x2, x3, clo, []] := HO.out
    refine (lines_own HOT (by simp) HL3.out _ HF2.out).mono ?_
    rintro e w6 ⟨rfl, k6⟩
    have HK6 := Lib.hid (HKW.out.trans' k6)
    clear k6 HOT
    go_wp2_with (fail)
    go_returns
    exact ⟨by rw [HF.out] <;> rfl, HK6.out⟩
  · have hn0' : ¬ (n : Int) > 0 := by omega
    have HF2 : Hid (linesL [x1, x2, clo, []] = reqL host target n) := Lib.hid (by rw [← hx1', ← hx2']; unfold reqL linesL; rw [if_neg hn0]; simp [List.intercalate, List.intersperse, clo])
    have HL3 : Hid ((([13, 10] : List UInt8).intercalate [x1, x2, clo, []]).length ≤ 1000000) := Lib.hid (by have := HX.out.2.2; simp [List.intercalate, List.intersperse, clo]; omega)
    go_enter Tryd.func35, Tryd.ntmps35
    go_wp2_with (first
      | (go_at_call 68; (with_reducible refine HVh.out.mono ?_); rintro x w5 ⟨rfl, rfl⟩)
      | (go_at_call 68; (with_reducible refine HVt.out.mono ?_); rintro x w5 ⟨rfl, rfl⟩)
      | (at_builtin
         refine wpList_append_lies _ rfl (.tmp 41) (.tmp 42) _ rfl w.heap.size 9 i0 (.string ⟨#[]⟩) 1 16 Tryd.underlying47 hi hz0 hz1 hz2 rfl (by decide) (.slice (some ⟨w.heap.size, 0, none⟩) 2 2) 2 [S x1, S x2] rfl (HB2.out.kept ((Kept.refl _ _).alloc _)) ⟨A.heap.size, 0, none⟩ 2 2 [S clo, S []] rfl rfl (World.news_of_block (heap_new A _)) (by intro u hu; simp at hu; rcases hu with rfl | rfl <;> rfl) (by decide) (by unfold maxLen; omega) (by omega) (by have := HSA.out; simp; omega) _ rfl ?_
         intro g cap wa own1 gr1 hat hlt
         have HO := Lib.hid own1
         have HKW : Hid (Kept [] w wa) := Lib.hid ((HKA.out.alloc (.cells #[S clo, S []] 9)).grown gr1 (fun q hq => by cases hq; exact Nat.le_refl _))
         clear own1 gr1 hat hlt))
    have HOT : OwnT w.heap.size wa (.slice (some ⟨g, 0, none⟩) 4 cap) [x1, x2, clo, []] := HO.out
    refine (lines_own HOT (by simp) HL3.out _ HF2.out).mono ?_
    rintro e w6 ⟨rfl, k6⟩
    have HK6 := Lib.hid (HKW.out.trans' k6)
    clear k6 HOT
    go_wp2_with (fail)
    go_returns
    exact ⟨by rw [HF.out] <;> rfl, HK6.out⟩
end Go.Proofs.YtgdioalhlmnhhaaDoor
