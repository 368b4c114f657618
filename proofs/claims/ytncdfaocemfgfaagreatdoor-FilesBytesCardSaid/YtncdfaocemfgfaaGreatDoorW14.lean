/- Walks and lemmas on the program of this seat, used by its statements; each theorem bears its own conditions. -/
import Derived.Test.YtncdfaocemfgfaaGreatDoorW12
import Derived.Handy
import Derived.OwnWalk
import Derived.Deep.AppendLies
import Derived.IntWalk
import Derived.Deep.CutRange
import Derived.Deep.RegionHeld3
import Derived.Deep.RegionLaw
import Derived.Maps.OwnSet
import Derived.Maps.Range
namespace Go.Proofs.YtncdfaocemfgfaaGreatDoor
open Go.RowKit
set_option linter.unusedVariables false
set_option linter.unusedSimpArgs false
set_option linter.unusedSectionVars false
open Go.RowKit
set_option linter.unusedVariables false
set_option linter.unusedSimpArgs false
set_option maxHeartbeats 8000000
set_option maxRecDepth 100000
def chCells (c : Ch) : List Value := [I c.key, S c.val, .bool c.drop]
def chsCells (l : List Ch) : List Value := l.flatMap chCells
theorem chsCells_len (l : List Ch) : (chsCells l).length = l.length * 3 := by
  induction l with
  | nil => rfl
  | cons s l ih => simp only [chsCells, List.flatMap_cons, List.length_append, chCells, List.length_cons, List.length_nil] at ih ⊢; omega
theorem chsCells_at (l : List Ch) : ∀ (i : Nat) (h : i < l.length), (chsCells l)[i * 3]? = some (I l[i].key) ∧ (chsCells l)[i * 3 + 1]? = some (S l[i].val) ∧ (chsCells l)[i * 3 + 2]? = some (.bool l[i].drop) := by
  induction l with
  | nil => intro i h; simp at h
  | cons s l ih =>
    intro i h
    cases i with
    | zero => exact ⟨rfl, rfl, rfl⟩
    | succ i =>
      have := ih i (by simpa using h)
      have e : chsCells (s :: l) = I s.key :: S s.val :: .bool s.drop :: chsCells l := rfl
      rw [e, show (i + 1) * 3 = i * 3 + 1 + 1 + 1 by omega]
      exact this
theorem chs_one (l : List Ch) : ∀ u ∈ chsCells l, u.oneCell' = true := by
  intro u hu
  obtain ⟨s, _, hs⟩ := List.mem_flatMap.1 hu
  simp [chCells] at hs
  rcases hs with rfl | rfl | rfl <;> rfl
theorem ch_info : (Tryz.prog.info? 130).map (fun i => (i.zero, i.size, i.bytes)) = some (some (.agg #[.int .i64 0, .string ⟨#[]⟩, .bool false]), 3, 32) := by kernel_rfl
abbrev OwnC (Bs : Nat) (p : Option Addr) (c : Nat) (l : List Ch) (w : World) : Prop := w.ownsRow Bs 130 3 (.slice p l.length c) l.length (chsCells l)
theorem OwnC.at {Bs : Nat} {p : Option Addr} {c : Nat} {l : List Ch} {w : World} (h : OwnC Bs p c l w) : ChsAt w (.slice p l.length c) l := by
  rcases h.2 with ⟨e, h0⟩ | ⟨g, cap, cur, e, hb, hg, hnc, _, hsz, htake⟩
  · have : l = [] := List.eq_nil_of_length_eq_zero h0
    subst this
    exact ⟨p, c, 0, 0, rfl, fun h => absurd rfl h, fun i hi => by simp at hi⟩
  · injection e with e1 e2 e3
    refine ⟨p, c, g, 0, rfl, fun _ => e1, fun i hi => ?_⟩
    obtain ⟨a1, a2, a3⟩ := chsCells_at l i hi
    rw [← htake] at a1 a2 a3
    rw [List.getElem?_take_of_lt (by omega), Array.getElem?_toList] at a1 a2 a3
    refine ⟨?_, ?_, ?_⟩
    · rw [cell_at hg, Nat.zero_add]; exact a1
    · rw [cell_at hg, Nat.zero_add]; exact a2
    · rw [cell_at hg, Nat.zero_add]; exact a3
theorem recF_drop (kb R : List UInt8) (k : Nat) (h : kb.length = 4) : ((0 :: kb ++ R).take 5).drop 1 = kb ∧ (0 :: kb ++ R).drop 5 = R := by
  constructor
  · rw [List.cons_append, List.take_succ_cons, List.drop_succ_cons, List.drop_zero, List.take_left' h]
  · rw [List.cons_append, List.drop_succ_cons, List.drop_left' h]
theorem recF_put (kb lb vl R : List UInt8) (h : kb.length = 4) (h2 : lb.length = 2) : ((1 :: kb ++ lb ++ vl ++ R).take 5).drop 1 = kb ∧ ((1 :: kb ++ lb ++ vl ++ R).take 7).drop 5 = lb ∧ ((1 :: kb ++ lb ++ vl ++ R).take (vl.length + 7)).drop 7 = vl ∧ (1 :: kb ++ lb ++ vl ++ R).drop (vl.length + 7) = R := by
  obtain ⟨a, b, c, d, rfl⟩ : ∃ a b c d, kb = [a, b, c, d] := by
    match kb, h with
    | [a, b, c, d], _ => exact ⟨a, b, c, d, rfl⟩
  obtain ⟨x, y, rfl⟩ : ∃ x y, lb = [x, y] := by
    match lb, h2 with
    | [x, y], _ => exact ⟨x, y, rfl⟩
  refine ⟨rfl, rfl, ?_, ?_⟩
  · simp
  · simp
set_option maxHeartbeats 8000000 in
theorem oparse_any (l : List Ch) (hk : ∀ c ∈ l, 1 ≤ c.key ∧ c.key ≤ 2147483647 ∧ c.val.length ≤ 256 ∧ (c.drop = true → c.val = [])) (hb : (recF l).length ≤ 100000) (hl : l.length ≤ 1000) (w : World) :
    Calls Tryz.prog 143 #[S (recF l)] w fun e w' => ∃ p c, e = .returned (.tuple #[.slice p l.length c, .bool true]) ∧ OwnC w.heap.size p c l w' ∧ Kept [] w w' := by
  have HK := Lib.hid (And.intro hk (And.intro hb hl))
  obtain ⟨i0, hi, hz0, hz1, hz2⟩ := info_parts ch_info
  have HI := Lib.hid (And.intro hi (And.intro hz0 (And.intro hz1 hz2)))
  obtain ⟨T, hT⟩ : ∃ T, recF l = T := ⟨_, rfl⟩
  have HT := Lib.hid hT
  rw [hT]
  clear hk hb hT hi hz0 hz1 hz2
  go_enter Tryz.func143, Tryz.ntmps143
  go_wp2_with (fail)
  go_loopw [4, 5] (fun v4 v5 wr => ∃ (done todo : List Ch) (p : Option Addr) (c : Nat) (X : List UInt8), l = done ++ todo ∧ recF todo = X ∧ v5 = S X ∧ v4 = .slice p done.length c ∧ OwnC w.heap.size p c done wr ∧ Kept [] w wr) (fun _ v5 _ => lenV v5)
  case atStart => exact ⟨[], l, none, 0, T, rfl, HT.out, rfl, rfl, ⟨rfl, .inl ⟨rfl, rfl⟩⟩, Kept.refl _ _⟩
  case round =>
    obtain ⟨done, todo, p, c, X, hdt, hX0, rfl, rfl, own, kr⟩ := hrel
    have HR := Lib.hid (And.intro hdt (And.intro own kr))
    have hdl : done.length ≤ 1000 := by have := HK.out.2.2; rw [hdt, List.length_append] at this; omega
    clear hdt own kr
    cases todo with
    | nil =>
      have e0 : [] = X := hX0
      subst e0
      have hdn : l = done := by have := HR.out.1; rw [List.append_nil] at this; exact this
      have hkd : ∀ c ∈ done, 1 ≤ c.key ∧ c.key ≤ 2147483647 ∧ c.val.length ≤ 256 := fun c hc => by
        have := HK.out.1 c (by rw [hdn]; exact hc)
        exact ⟨this.1, this.2.1, this.2.2.1⟩
      have HRC := Lib.hid (orecord_any done _ wr HR.out.2.1.at hdl hkd)
      have hTd : recF done = T := by rw [← hdn, HT.out]
      rw [hTd] at HRC
      have HDN := Lib.hid hdn
      clear hdn hkd hTd hX0
      go_wp2_with (fail)
      refine HRC.out.mono ?_
      rintro e w2 ⟨rfl, k2⟩
      have K2 := Lib.hid k2
      clear k2
      go_wp2_with (fail)
      go_ret2
      refine ⟨p, c, by rw [HDN.out]; first | done | rfl | simp, ?_, HR.out.2.2.trans' K2.out⟩
      rw [HDN.out]
      exact own_kept HR.out.2.1 K2.out (by simp)
    | cons x todo =>
      obtain ⟨ky, vl, dr⟩ := x
      obtain ⟨h1, h2, h3, h4⟩ := HK.out.1 ⟨ky, vl, dr⟩ (by rw [HR.out.1]; simp)
      simp only at h1 h2 h3 h4
      have hlen : (recF (⟨ky, vl, dr⟩ :: todo)).length ≤ 100000 := by
        have := HK.out.2.1
        rw [HR.out.1] at this
        have e : recF (done ++ ⟨ky, vl, dr⟩ :: todo) = recF done ++ recF (⟨ky, vl, dr⟩ :: todo) := by simp [recF]
        rw [e, List.length_append] at this
        omega
      have hkl := putN_len 4 ky.toNat
      have hgk : getN (putN 4 ky.toNat) = ky.toNat := getN_put 4 _ (by omega)
      have hkn : ((ky.toNat : Nat) : Int) = ky := by omega
      obtain ⟨kb, hkb⟩ : ∃ kb, putN 4 ky.toNat = kb := ⟨_, rfl⟩
      rw [hkb] at hkl hgk
      have hgl : getN (putN 2 vl.length) = vl.length := getN_put 2 _ (by omega)
      have hll := putN_len 2 vl.length
      obtain ⟨lb, hlb⟩ : ∃ lb, putN 2 vl.length = lb := ⟨_, rfl⟩
      rw [hlb] at hll hgl
      obtain ⟨R, hR⟩ : ∃ R, recF todo = R := ⟨_, rfl⟩
      obtain ⟨q, hq⟩ : ∃ q, wr.heap.size = q := ⟨_, rfl⟩
      obtain ⟨hi, hz0, hz1, hz2⟩ := HI.out
      have HGK : Hid (∀ W, Calls Tryz.prog 74 #[S kb] W fun e w' => e = .returned (.tuple #[I ky, I 0]) ∧ w' = W) := Lib.hid (fun W => by
        have := get_any W kb (by intro h; rw [h] at hkl; cases hkl) (by omega)
        rw [hgk, hkn] at this; exact this)
      have HGL : Hid (∀ W, Calls Tryz.prog 74 #[S lb] W fun e w' => e = .returned (.tuple #[I vl.length, I 0]) ∧ w' = W) := Lib.hid (fun W => by
        have := get_any W lb (by intro h; rw [h] at hll; cases hll) (by omega)
        rw [hgl] at this; exact this)
      cases dr with
      | true =>
        have hv := h4 rfl
        subst hv
        have hrec : recF (⟨ky, [], true⟩ :: todo) = 0 :: kb ++ R := by rw [recF_cons, hR, ← hkb]; rfl
        have hX : 0 :: kb ++ R = X := by rw [← hX0, hrec]
        obtain ⟨c1, c2⟩ := recF_drop kb R 5 hkl
        have hb0 : byteAt X 0 = 0 := by rw [← hX]; rfl
        have hXl : X.length = 5 + R.length := by rw [← hX]; simp [hkl]; omega
        rw [hrec, hX] at hlen
        rw [hX] at c1 c2
        have hXI : (5 : Int) ≤ X.length := by omega
        have hXI2 : (X.length : Int) ≤ 100000 := by omega
        have hXe : X.isEmpty = false := by cases X; simp at hXl; omega; rfl
        have hXn : (X == []) = false := by cases X; simp at hXl; omega; rfl
        have hq0 : ((byteAt X 0).toNat : Int) = 0 := by rw [hb0]; rfl
        have hq0b : (((byteAt X 0).toNat : Int) != 1) = true := by rw [hb0]; rfl
        have HF := Lib.hid (And.intro hR (And.intro hXl hkb))
        have hnw := heap_new wr (Obj.cells #[I 0, S [], .bool true] 130)
        have hkx := (Kept.refl [] wr).alloc (Obj.cells #[I 0, S [], .bool true] 130)
        obtain ⟨W1, hW1⟩ : ∃ W1, wr.alloc (Obj.cells #[I 0, S [], .bool true] 130) = W1 := ⟨_, rfl⟩
        rw [hW1, hq] at hnw
        rw [hW1] at hkx
        have g0 := cell_at hnw 0
        have gf := free_at hnw
        have hnw2 := heap_setCell_at hnw 0 (I ky)
        obtain ⟨W2, hW2⟩ : ∃ W2, W1.setCell ⟨q, 0, none⟩ (I ky) = W2 := ⟨_, rfl⟩
        have hkx2 : Kept [] wr W2 := by rw [← hW2]; exact hkx.setCell (.inr (by show wr.heap.size ≤ q; omega)) _
        rw [hW2] at hnw2
        have hnw3 : W2.heap[q]? = some (.cells #[I ky, S [], .bool true] 130 (0, 0)) := by simpa using hnw2
        have m0 := cell_at hnw3 0
        have m1 := cell_at hnw3 1
        have m2 := cell_at hnw3 2
        have n0 : W2.drew.cell? ⟨q, 0, none⟩ = _ := m0
        have n1 : W2.drew.cell? ⟨q, 1, none⟩ = _ := m1
        have n2 : W2.drew.cell? ⟨q, 2, none⟩ = _ := m2
        simp only [List.getElem?_toArray, List.getElem?_cons_zero, List.getElem?_cons_succ] at g0 m0 m1 m2 n0 n1 n2
        have HW2 := Lib.hid hkx2
        clear hR hXl hkb hnw hkx hnw2 hkx2 hnw3 hb0 hrec h4 hX0 hX
        go_upto_region 17 with (fail)
        refine (HGK.out _).mono ?_
        rintro e w5 ⟨rfl, rfl⟩
        go_upto_region 17 with (fail)
        go_region_law (first
          | (refine step_append_lies _ rfl (.tmp 47) (.tmp 49) 131 rfl w.heap.size 130 i0 (.agg #[.int .i64 0, .string ⟨#[]⟩, .bool false]) 3 32 Tryz.underlying131 hi hz0 hz1 hz2 rfl (by decide) (.slice p done.length c) done.length (chsCells done) (by simp [Act.eval, Act.put]) (by first | exact own_kept HR.out.2.1 (HW2.out.alloc (Obj.cells #[I ky, S [], .bool true] 130)).drew (by simp) | exact own_kept HR.out.2.1 (HW2.out.drew.alloc (Obj.cells #[I ky, S [], .bool true] 130)) (by simp)) ⟨W2.heap.size, 0, none⟩ 1 1 [I ky, S [], .bool true] (by simp [Act.eval, Act.put]) rfl (by first | exact World.news_of_block (heap_new W2 (Obj.cells #[I ky, S [], .bool true] 130)) | exact World.news_of_block (heap_new W2.drew (Obj.cells #[I ky, S [], .bool true] 130))) (chs_one [⟨ky, [], true⟩]) (by decide) (by unfold maxLen; omega) (by omega) (by have := (HR.out.2.2.trans' HW2.out).size; exact Nat.le_trans this (((Kept.refl [] W2).alloc (Obj.cells #[I ky, S [], .bool true] 130)).size)) _ rfl ?_
             intro g cap wa own1 gr1 hat hlt
             have HA := Lib.hid (And.intro own1 (kept_grown gr1))
             clear own1 gr1 hat hlt))
        all_goals
          simp only [List.getElem_toArray, List.getElem_cons_succ, List.getElem_cons_zero]
          go_frame
          go_wp2
          go_roundw
          case rel =>
            obtain ⟨own1, kg⟩ := HA.out
            refine ⟨done ++ [⟨ky, [], true⟩], todo, some ⟨g, 0, none⟩, cap, R, by rw [HR.out.1]; simp, HF.out.1, rfl, by simp, ?_, ?_⟩
            · have e : chsCells done ++ [I ky, S [], .bool true] = chsCells (done ++ [⟨ky, [], true⟩]) := by simp [chsCells, chCells]
              rw [e] at own1
              show World.ownsRow _ _ _ _ _ _ _
              rw [List.length_append]
              exact own1
            · refine (HR.out.2.2.trans' HW2.out).new (((Kept.refl [] W2).alloc (Obj.cells #[I ky, S [], .bool true] 130)).drew.mono (by simp) |>.trans' kg) ?_
              intro x hx
              exact (own_lt HR.out.2.1 x (by simpa using hx)).1
          case measure =>
            show R.length < X.length
            have := HF.out.2.1
            omega
      | false =>
        have hrec : recF (⟨ky, vl, false⟩ :: todo) = 1 :: kb ++ lb ++ vl ++ R := by rw [recF_cons, hR, ← hkb, ← hlb]; rfl
        have hX : 1 :: kb ++ lb ++ vl ++ R = X := by rw [← hX0, hrec]
        obtain ⟨c1, c2, c3, c4⟩ := recF_put kb lb vl R hkl hll
        have hb0 : byteAt X 0 = 1 := by rw [← hX]; rfl
        have hXl : X.length = 7 + vl.length + R.length := by rw [← hX]; simp [hkl, hll]; omega
        rw [hrec, hX] at hlen
        rw [hX] at c1 c2 c3 c4
        have hXI : (vl.length : Int) + 7 ≤ X.length := by omega
        have hXI2 : (X.length : Int) ≤ 100000 := by omega
        have hn0 : (0 : Int) ≤ (vl.length : Int) + 7 := by omega
        have hnt : ((vl.length : Int) + 7).toNat = vl.length + 7 := by omega
        have hXd : decide ((vl.length : Int) + 7 ≤ X.length) = true := decide_eq_true hXI
        have hvI : (vl.length : Int) ≤ 256 := by omega
        have hXe : X.isEmpty = false := by cases X; simp at hXl; omega; rfl
        have hXn : (X == []) = false := by cases X; simp at hXl; omega; rfl
        have hq0 : ((byteAt X 0).toNat : Int) = 1 := by rw [hb0]; rfl
        have hq0b : (((byteAt X 0).toNat : Int) != 1) = false := by rw [hb0]; rfl
        have HF := Lib.hid (And.intro hR (And.intro hXl hkb))
        clear hR hXl hkb hlb hb0 hrec h4 hX0 hX
        go_upto_region 7 with (fail)
        have hnw := heap_new wr (Obj.cells #[I 0, S [], .bool false] 130)
        have hkx := (Kept.refl [] wr).alloc (Obj.cells #[I 0, S [], .bool false] 130)
        obtain ⟨W1, hW1⟩ : ∃ W1, wr.alloc (Obj.cells #[I 0, S [], .bool false] 130) = W1 := ⟨_, rfl⟩
        rw [hW1, hq] at hnw
        rw [hW1] at hkx
        have g0 := cell_at hnw 0
        have gf := free_at hnw
        have hnwa := heap_setCell_at hnw 0 (I ky)
        obtain ⟨Wa, hWa⟩ : ∃ Wa, W1.setCell ⟨q, 0, none⟩ (I ky) = Wa := ⟨_, rfl⟩
        have hkxa : Kept [] wr Wa := by rw [← hWa]; exact hkx.setCell (.inr (by show wr.heap.size ≤ q; omega)) _
        rw [hWa] at hnwa
        have hnwb : Wa.heap[q]? = some (.cells #[I ky, S [], .bool false] 130 (0, 0)) := by simpa using hnwa
        have a1 := cell_at hnwb 1
        have a2 := cell_at hnwb 2
        have af := free_at hnwb
        have hnw2 := heap_setCell_at hnwb 1 (S vl)
        obtain ⟨W2, hW2⟩ : ∃ W2, Wa.setCell ⟨q, 1, none⟩ (S vl) = W2 := ⟨_, rfl⟩
        have hkx2 : Kept [] wr W2 := by rw [← hW2]; exact hkxa.setCell (.inr (by show wr.heap.size ≤ q; omega)) _
        rw [hW2] at hnw2
        have hnw3 : W2.heap[q]? = some (.cells #[I ky, S vl, .bool false] 130 (0, 0)) := by simpa using hnw2
        have m0 := cell_at hnw3 0
        have m1 := cell_at hnw3 1
        have m2 := cell_at hnw3 2
        have n0 : W2.drew.cell? ⟨q, 0, none⟩ = _ := m0
        have n1 : W2.drew.cell? ⟨q, 1, none⟩ = _ := m1
        have n2 : W2.drew.cell? ⟨q, 2, none⟩ = _ := m2
        simp only [List.getElem?_toArray, List.getElem?_cons_zero, List.getElem?_cons_succ] at g0 a1 a2 m0 m1 m2 n0 n1 n2
        have HW2 := Lib.hid hkx2
        clear hnw hkx hnw2 hkx2 hnw3 hnwa hnwb hkxa
        go_upto_region 17 with (fail)
        refine (HGK.out _).mono ?_
        rintro e w5 ⟨rfl, rfl⟩
        go_upto_region 17 with (fail)
        refine (HGL.out _).mono ?_
        rintro e w5 ⟨rfl, rfl⟩
        go_upto_region 17 with (fail)
        go_region_law (first
          | (refine step_append_lies _ rfl (.tmp 47) (.tmp 49) 131 rfl w.heap.size 130 i0 (.agg #[.int .i64 0, .string ⟨#[]⟩, .bool false]) 3 32 Tryz.underlying131 hi hz0 hz1 hz2 rfl (by decide) (.slice p done.length c) done.length (chsCells done) (by simp [Act.eval, Act.put]) (by first | exact own_kept HR.out.2.1 (HW2.out.alloc (Obj.cells #[I ky, S vl, .bool false] 130)).drew (by simp) | exact own_kept HR.out.2.1 (HW2.out.drew.alloc (Obj.cells #[I ky, S vl, .bool false] 130)) (by simp)) ⟨W2.heap.size, 0, none⟩ 1 1 [I ky, S vl, .bool false] (by simp [Act.eval, Act.put]) rfl (by first | exact World.news_of_block (heap_new W2 (Obj.cells #[I ky, S vl, .bool false] 130)) | exact World.news_of_block (heap_new W2.drew (Obj.cells #[I ky, S vl, .bool false] 130))) (chs_one [⟨ky, vl, false⟩]) (by decide) (by unfold maxLen; omega) (by omega) (by have := (HR.out.2.2.trans' HW2.out).size; exact Nat.le_trans this (((Kept.refl [] W2).alloc (Obj.cells #[I ky, S vl, .bool false] 130)).size)) _ rfl ?_
             intro g cap wa own1 gr1 hat hlt
             have HA := Lib.hid (And.intro own1 (kept_grown gr1))
             clear own1 gr1 hat hlt))
        all_goals
          simp only [List.getElem_toArray, List.getElem_cons_succ, List.getElem_cons_zero]
          go_frame
          go_wp2
          go_roundw
          case rel =>
            obtain ⟨own1, kg⟩ := HA.out
            refine ⟨done ++ [⟨ky, vl, false⟩], todo, some ⟨g, 0, none⟩, cap, R, by rw [HR.out.1]; simp, HF.out.1, rfl, by simp, ?_, ?_⟩
            · have e : chsCells done ++ [I ky, S vl, .bool false] = chsCells (done ++ [⟨ky, vl, false⟩]) := by simp [chsCells, chCells]
              rw [e] at own1
              show World.ownsRow _ _ _ _ _ _ _
              rw [List.length_append]
              exact own1
            · refine (HR.out.2.2.trans' HW2.out).new (((Kept.refl [] W2).alloc (Obj.cells #[I ky, S vl, .bool false] 130)).drew.mono (by simp) |>.trans' kg) ?_
              intro x hx
              exact (own_lt HR.out.2.1 x (by simpa using hx)).1
          case measure =>
            show R.length < X.length
            have := HF.out.2.1
            omega
end Go.Proofs.YtncdfaocemfgfaaGreatDoor
