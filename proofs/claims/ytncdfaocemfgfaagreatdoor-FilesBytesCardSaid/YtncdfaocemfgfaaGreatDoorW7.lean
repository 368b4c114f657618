/- Walks and lemmas on the program of this seat, used by its statements; each theorem bears its own conditions. -/
import Derived.Test.YtncdfaocemfgfaaGreatDoorW6
import Derived.Handy
import Derived.OwnWalk
import Derived.Deep.AppendLies
import Derived.IntWalk
import Derived.Deep.CutRange
import Derived.Deep.RegionHeld3
import Derived.Deep.RegionLaw
namespace Go.Proofs.YtncdfaocemfgfaaGreatDoor
open Go.RowKit
set_option linter.unusedVariables false
set_option linter.unusedSimpArgs false
set_option linter.unusedSectionVars false
section
open Go.RowKit
set_option linter.unusedVariables false
set_option linter.unusedSimpArgs false
set_option maxHeartbeats 8000000
set_option maxRecDepth 100000
def pagesF (n : Nat) : Nat := if n ≤ 60 then 1 else 1 + (n + 2) / 63
theorem pages_any (n : Nat) (hn : n ≤ 400) (w : World) : Calls Tryz.prog 118 #[I n] w fun e w' => e = .returned (I (pagesF n)) ∧ w' = w := by
  have hnI : (n : Int) ≤ 400 := by omega
  by_cases h : n ≤ 60
  · have hI : (n : Int) ≤ 60 := by omega
    have HP : Hid (pagesF n = 1) := Lib.hid (by unfold pagesF; rw [if_pos h])
    clear h
    go_enter Tryz.func118, Tryz.ntmps118
    go_wp2_with (fail)
    go_ret
    exact ⟨by rw [HP.out]; rfl, rfl⟩
  · have hI : decide ((n : Int) ≤ 60) = false := decide_eq_false (by omega)
    have hI2 : (60 : Int) < n := by omega
    have HP : Hid (pagesF n = 1 + (n + 2) / 63) := Lib.hid (by unfold pagesF; rw [if_neg h])
    have hv : (1 : Int) + ((n : Int) - 60 + 63 - 1) / 63 = (1 + (n + 2) / 63 : Nat) := by omega
    have HV := Lib.hid hv
    clear h hv
    go_enter Tryz.func118, Tryz.ntmps118
    go_wp2_with (fail)
    go_ret
    exact ⟨by rw [HP.out, ← HV.out]; rfl, rfl⟩
def chunksF : Nat → List UInt8 → List (List UInt8)
  | 0, _ => []
  | k + 1, r => if r = [] then [] else r.take 63 :: chunksF k (r.drop 63)
def firstL (r : List UInt8) : List UInt8 := [1] ++ putN 2 r.length ++ [255] ++ r.take 60
def laidL (r : List UInt8) : List (List UInt8) := firstL r :: (chunksF 7 (r.drop 60)).map (2 :: ·)
theorem str_info : (Tryz.prog.info? 9).map (fun i => (i.zero, i.size, i.bytes)) = some (some (.string ⟨#[]⟩), 1, 16) := by kernel_rfl
theorem S_one (l : List (List UInt8)) : ∀ u ∈ l.map S, u.oneCell' = true := by
  intro u hu
  obtain ⟨x, _, rfl⟩ := List.mem_map.1 hu
  rfl
theorem one_conv2 (w : World) (c : UInt8) : (convert 75 9 (.slice (some ⟨w.heap.size, 0, none⟩) 1 1)).run Tryz.prog (w.alloc (.cells #[B c] 5)).drew = .ok (S [c]) (w.alloc (.cells #[B c] 5)).drew := by
  have h : Row (w.alloc (.cells #[B c] 5)).drew w.heap.size [c] := heap_new w _
  exact conv_row h 1
theorem news2 (w : World) (a b : Obj) : ((w.alloc a).alloc b).drew.heap[w.heap.size + 1]? = some b := by
  have := heap_new (w.alloc a) b
  rw [World.size_alloc] at this
  exact this
set_option maxHeartbeats 4000000 in
theorem laid_any (r : List UInt8) (hr : r.length ≤ 400) (w : World) : Calls Tryz.prog 195 #[S r] w fun e w' => ∃ v, e = .returned v ∧ w'.ownsRow w.heap.size 9 1 v (laidL r).length ((laidL r).map S) ∧ Kept [] w w' := by
  have e256 : (256 : Nat) ^ 2 = 65536 := by decide
  have h65 : r.length < 256 ^ 2 := by omega
  clear e256
  have HP := Lib.hid (fun W => put_any W r.length 2 (by omega) (by omega) h65)
  clear h65
  have hrI : (r.length : Int) ≤ 400 := by omega
  have hpl := putN_len 2 r.length
  obtain ⟨pn, hpn⟩ : ∃ pn, putN 2 r.length = pn := ⟨_, rfl⟩
  have HF : Hid (firstL r = [1] ++ pn ++ [255] ++ r.take 60) := Lib.hid (by unfold firstL; rw [hpn])
  rw [hpn] at HP hpl
  obtain ⟨m, hm, hm2⟩ : ∃ m : Nat, min (r.length : Int) 60 = (m : Int) ∧ m ≤ r.length := ⟨min r.length 60, by omega, by omega⟩
  have hm60 : r.take m = r.take 60 := by
    by_cases h : r.length ≤ 60
    · rw [List.take_of_length_le (by omega), List.take_of_length_le h]
    · rw [show m = 60 by omega]
  have hd60 : r.drop m = r.drop 60 := by
    by_cases h : r.length ≤ 60
    · rw [List.drop_of_length_le (by omega), List.drop_of_length_le h]
    · rw [show m = 60 by omega]
  have H60 := Lib.hid (And.intro hm60 hd60)
  have hmI : (m : Int) ≤ r.length := by omega
  obtain ⟨i0, hi, hz0, hz1, hz2⟩ := info_parts str_info
  have HI := Lib.hid (And.intro hi (And.intro hz0 (And.intro hz1 hz2)))
  clear hpn hm2 hm60 hd60 hi hz0 hz1 hz2
  go_enter Tryz.func195, Tryz.ntmps195
  go_wp2_with (fail)
  refine (HP.out _).mono ?_
  rintro e w1 ⟨rfl, k1⟩
  have K1 := Lib.hid k1
  clear k1
  go_upto_region 3 with (fail)
  have hcv : (convert 75 9 (.slice (some ⟨w1.heap.size, 0, none⟩) 1 1)).run Tryz.prog (w1.alloc (.cells #[.int .u8 1] 5)).drew = .ok (S [1]) (w1.alloc (.cells #[.int .u8 1] 5)).drew := one_conv2 w1 1
  go_cut [6] from 16 to 25 (fun v6 wx => wx.ownsRow w.heap.size 9 1 v6 1 [S (firstL r)] ∧ Kept [] w wx)
  case first =>
    go_region
    all_goals
      go_wp2
      go_meet
      have hfl : S (firstL r) = Value.string ⟨(1 :: (pn ++ 255 :: r.take m)).toArray⟩ := by rw [HF.out, ← H60.out.1]; simp
      rw [hfl]
      have hsz := K1.out.size
      have hg : ((w1.alloc (Obj.cells #[Value.int .u8 1] 5)).alloc (Obj.cells #[Value.string ⟨(1 :: (pn ++ 255 :: r.take m)).toArray⟩] 9)).drew.heap[w1.heap.size + 1]? = some (.cells #[Value.string ⟨(1 :: (pn ++ 255 :: r.take m)).toArray⟩] 9 (0, 0)) := by
        have := heap_new (w1.alloc (Obj.cells #[Value.int .u8 1] 5)) (Obj.cells #[Value.string ⟨(1 :: (pn ++ 255 :: r.take m)).toArray⟩] 9)
        rw [World.size_alloc] at this
        exact this
      exact ⟨⟨rfl, .inr ⟨w1.heap.size + 1, 1, _, rfl, by omega, hg, by omega, by decide, rfl, rfl⟩⟩, ((K1.out.alloc _).alloc _).drew⟩
  case rest =>
  obtain ⟨own, kx⟩ := hcut
  have HX := Lib.hid (And.intro own kx)
  have HL0 : Hid (laidL r = [firstL r] ++ (chunksF 7 (r.drop m)).map (2 :: ·)) := Lib.hid (by unfold laidL; rw [H60.out.2]; rfl)
  clear own kx hcv
  obtain ⟨rest0, hr0⟩ : ∃ x, r.drop m = x := ⟨_, rfl⟩
  have hr0l : rest0.length ≤ 400 := by rw [← hr0, List.length_drop]; omega
  have hr0I : (rest0.length : Int) ≤ 400 := by omega
  have hr07 : rest0.length ≤ 63 * 7 := by omega
  rw [hr0] at HL0
  go_upto_region 5 with (fail)
  go_loopw [0, 6] (fun v0 v6 wr => ∃ (j : Nat) (done : List (List UInt8)) (rest : List UInt8), j ≤ 7 ∧ v0 = S rest ∧ rest.length ≤ 63 * j ∧ wr.ownsRow w.heap.size 9 1 v6 done.length (done.map S) ∧ done.length + j = 8 ∧ laidL r = done ++ (chunksF j rest).map (2 :: ·) ∧ Kept [] w wr) (fun v0 _ _ => lenV v0)
  case atStart => exact ⟨7, [firstL r], rest0, by omega, by first | rfl | rw [hr0], hr07, HX.out.1, rfl, HL0.out, HX.out.2⟩
  case round =>
    obtain ⟨j, done, rest, hj, rfl, hrl, own, hdj, hlaid, kr⟩ := hrel
    by_cases hre : rest = []
    · subst hre
      have hch : chunksF j [] = [] := by cases j <;> rfl
      rw [hch, List.map_nil, List.append_nil] at hlaid
      have HR := Lib.hid (And.intro own (And.intro hlaid kr))
      clear own hlaid kr
      go_wp2_with (fail)
      go_ret
      exact ⟨_, rfl, by rw [HR.out.2.1]; exact HR.out.1, HR.out.2.2⟩
    · have hb1 : (rest != []) = true := by simpa using hre
      have hb2 : (!rest.isEmpty) = true := by simpa using hre
      obtain ⟨j', rfl⟩ : ∃ j', j = j' + 1 := ⟨j - 1, by have := List.length_pos_iff.2 hre; omega⟩
      obtain ⟨q, hq, hq2⟩ : ∃ q : Nat, min (rest.length : Int) 63 = (q : Int) ∧ q ≤ rest.length := ⟨min rest.length 63, by omega, by omega⟩
      have hqt : rest.take q = rest.take 63 := by
        by_cases h : rest.length ≤ 63
        · rw [List.take_of_length_le (by omega), List.take_of_length_le h]
        · rw [show q = 63 by omega]
      have hqd : rest.drop q = rest.drop 63 := by
        by_cases h : rest.length ≤ 63
        · rw [List.drop_of_length_le (by omega), List.drop_of_length_le h]
        · rw [show q = 63 by omega]
      have hqp : 1 ≤ q := by have := List.length_pos_iff.2 hre; omega
      have hch : chunksF (j' + 1) rest = rest.take q :: chunksF j' (rest.drop q) := by
        show (if rest = [] then [] else rest.take 63 :: chunksF j' (rest.drop 63)) = _
        rw [if_neg hre, hqt, hqd]
      rw [hch, List.map_cons] at hlaid
      have hqI : (q : Int) ≤ rest.length := by omega
      have hrlI : (rest.length : Int) ≤ 441 := by omega
      have hmn : ¬ 9223372036854775807 < 1 + min q rest.length := by omega
      have hmn2 : (9223372036854775807 < 1 + min q rest.length) = False := eq_false hmn
      obtain ⟨p, c, rfl⟩ := own_form own
      have HR := Lib.hid (And.intro own (And.intro hlaid kr))
      have HJ := Lib.hid (And.intro hj (And.intro hdj (And.intro hrl (And.intro hqp (And.intro hq2 hqd)))))
      clear own hlaid kr hre hqt hqd hch hj hdj hrl hqp hq2
      go_upto_region 8 with (fail)
      have hcv : (convert 75 9 (.slice (some ⟨wr.heap.size, 0, none⟩) 1 1)).run Tryz.prog (wr.alloc (.cells #[.int .u8 2] 5)).drew = .ok (S [2]) (wr.alloc (.cells #[.int .u8 2] 5)).drew := one_conv2 wr 2
      obtain ⟨hi, hz0, hz1, hz2⟩ := HI.out
      go_region_law (first
        | (refine step_append_lies _ rfl (.tmp 37) (.tmp 44) 22 rfl w.heap.size 9 i0 (.string ⟨#[]⟩) 1 16 Tryz.underlying22 hi hz0 hz1 hz2 rfl (by decide) (.slice p done.length c) done.length (done.map S) (by simp [Act.eval, Act.put]) (by exact own_kept HR.out.1 (((Kept.refl [] wr).alloc _).alloc _).drew (by simp)) ⟨wr.heap.size + 1, 0, none⟩ 1 1 [S (2 :: rest.take q)] (by simp [Act.eval, Act.put]) rfl (by exact World.news_of_block (news2 wr _ _)) (S_one [2 :: rest.take q]) (by decide) (by have := HJ.out.2.1; unfold maxLen; omega) (by have := HJ.out.2.1; omega) (by have := HR.out.2.2.size; exact Nat.le_trans this (((Kept.refl [] wr).alloc _).alloc _).drew.size) _ rfl ?_
           intro g cap wa own1 gr1 hat hlt
           have HA := Lib.hid (And.intro own1 gr1)
           clear own1 gr1 hat hlt))
      all_goals
        go_wp2
        go_roundw
      case rel =>
        obtain ⟨own1, gr1⟩ := HA.out
        obtain ⟨own, hlaid, kr⟩ := HR.out
        obtain ⟨hj, hdj, hrl, hqp, hq2, hqd⟩ := HJ.out
        refine ⟨j', done ++ [2 :: rest.take q], rest.drop q, by omega, rfl, by rw [hqd, List.length_drop]; omega, ?_, by rw [List.length_append]; simp; omega, by rw [hlaid]; simp, ?_⟩
        · rw [List.map_append, List.length_append]
          exact own1
        · refine kr.new ((((Kept.refl [] wr).alloc _).alloc _).drew.mono (by simp) |>.trans' (kept_grown gr1)) ?_
          intro x hx
          exact (own_lt own x (by simpa using hx)).1
      case measure =>
        obtain ⟨hj, hdj, hrl, hqp, hq2, hqd⟩ := HJ.out
        show (rest.drop q).length < rest.length
        rw [List.length_drop]
        omega
end
section
open Go.RowKit
set_option linter.unusedVariables false
set_option linter.unusedSimpArgs false
set_option maxHeartbeats 8000000
set_option maxRecDepth 100000
/-- The flash behind pages laid one behind the other. -/
def layF (f : Fl) (a : Nat) : List (List UInt8) → Fl
  | [] => f
  | s :: l => layF { f.stepped with bs := progL f.bs a s } (a + 64) l
def appF (f : Fl) (a : Nat) (r : List UInt8) : Fl := { (layF f a (laidL r)).stepped with bs := progL (layF f a (laidL r)).bs (a + 3) [0] }
theorem chunks_all (k : Nat) : ∀ (r : List UInt8), ∀ x ∈ chunksF k r, x.length ≤ 63 := by
  induction k with
  | zero => intro r x hx; simp [chunksF] at hx
  | succ k ih =>
    intro r x hx
    unfold chunksF at hx
    split at hx
    · simp at hx
    · rcases List.mem_cons.1 hx with rfl | hx
      · rw [List.length_take]; omega
      · exact ih _ x hx
theorem laidL_all (r : List UInt8) : ∀ x ∈ laidL r, x ≠ [] ∧ x.length ≤ 64 := by
  intro x hx
  rcases List.mem_cons.1 hx with rfl | hx
  · unfold firstL
    refine ⟨by simp, ?_⟩
    simp only [List.length_append, List.length_take, putN_len, List.length_cons, List.length_nil]
    omega
  · obtain ⟨y, hy, rfl⟩ := List.mem_map.1 hx
    have := chunks_all _ _ y hy
    exact ⟨by simp, by simp; omega⟩
theorem chunks_len (k : Nat) : ∀ (r : List UInt8), r.length ≤ 63 * k → (chunksF k r).length = (r.length + 62) / 63 := by
  induction k with
  | zero => intro r hr; have : r.length = 0 := by omega
            rw [this]; rfl
  | succ k ih =>
    intro r hr
    unfold chunksF
    split
    · next h => subst h; rfl
    · next h =>
      have := List.length_pos_iff.2 h
      rw [List.length_cons, ih _ (by rw [List.length_drop]; omega), List.length_drop]
      omega
theorem laidL_len (r : List UInt8) (hr : r.length ≤ 400) : (laidL r).length = pagesF r.length := by
  unfold laidL
  rw [List.length_cons, List.length_map, chunks_len 7 _ (by rw [List.length_drop]; omega), List.length_drop]
  unfold pagesF
  split <;> omega
theorem row_cells1 {w : World} {B : Nat} {t : TypeId} {v : Value} {n : Nat} {xs : List Value} (h : w.ownsRow B t 1 v n xs) (hne : n ≠ 0) :
    ∃ g c, v = .slice (some ⟨g, 0, none⟩) n c ∧ B ≤ g ∧ ∀ i, i < n → w.cell? ⟨g, i, none⟩ = xs[i]? := by
  rcases h.2 with ⟨e, h0⟩ | ⟨g, cap, cur, e, hb, hg, hnc, _, hsz, htake⟩
  · exact absurd h0 hne
  · refine ⟨g, cap, e, hb, fun i hi => ?_⟩
    rw [cell_at hg, ← htake, List.getElem?_take_of_lt (by omega), Array.getElem?_toList]
end
end Go.Proofs.YtncdfaocemfgfaaGreatDoor
