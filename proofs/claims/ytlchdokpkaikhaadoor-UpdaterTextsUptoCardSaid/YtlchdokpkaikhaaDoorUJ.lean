/- Walks and lemmas on the program of this seat, used by its statements; each theorem bears its own conditions. -/
import Derived.Test.YtlchdokpkaikhaaDoorUI
import Derived.Handy
import Derived.IntWalk
import Derived.Deep.RegionHeld3
import Derived.OwnWalk
import Derived.Deep.AppendLies
import Derived.Lib.SmallJoins
namespace Go.Proofs.YtlchdokpkaikhaaDoor
open Go.RowKit
set_option linter.unusedVariables false
set_option linter.unusedSimpArgs false
/-! ### Parse: the parts -/
def AtoiP (l : List UInt8) (w : World) (e : Ending) (w' : World) : Prop :=
  ∃ (n : Int) (v : Value), e = .returned (.tuple #[I n, v]) ∧ (∀ m wd : Nat, l = dig m (wd + 1) → m < 10 ^ (wd + 1) → wd < 15 → n = m) ∧ Kept [] w w'
theorem atoi_post (l : List UInt8) (w : World) (hl : l.length ≤ 281474976710656) (hT : Tabs w) :
    Calls Tryd.prog 29 #[S l] w fun e w' => AtoiP l w e w' := by
  by_cases hx : ∃ m wd : Nat, l = dig m (wd + 1) ∧ m < 10 ^ (wd + 1) ∧ wd < 15
  · obtain ⟨m, wd, rfl, h1, h2⟩ := hx
    refine (Tryd.strconv_Atoi ⟨(dig m (wd + 1)).toArray⟩ m (by simp [ByteArray.size, dig_len]; omega) (atoi_dig wd m h1) w).mono ?_
    rintro e w' ⟨rfl, t, rfl⟩
    refine ⟨m, _, rfl, fun m' wd' e1 e2 _ => ?_, Kept.of_below0 (Go.Joins.below_bytesWorld _ _ _ _ (Nat.le_refl _))⟩
    have hw : wd = wd' := by have := congrArg List.length e1; rw [dig_len, dig_len] at this; omega
    subst hw
    rw [dig_inj _ h1 e2 e1]
  · have hv : ∀ (n : Int) (m wd : Nat), l = dig m (wd + 1) → m < 10 ^ (wd + 1) → wd < 15 → n = m := fun n m wd e1 e2 e3 => absurd ⟨m, wd, e1, e2, e3⟩ hx
    cases ha : Lib.atoiAll l with
    | ok v =>
      refine (Tryd.strconv_Atoi_ok ⟨l.toArray⟩ (by simp [ByteArray.size]; omega) v ha w).mono ?_
      rintro e w' ⟨rfl, rfl | ⟨t, rfl⟩⟩
      · exact ⟨v, _, rfl, hv v, Kept.refl _ _⟩
      · exact ⟨v, _, rfl, hv v, Kept.of_below0 (Go.Joins.below_bytesWorld _ _ _ _ (Nat.le_refl _))⟩
    | «syntax» =>
      obtain ⟨tp, p, h⟩ := hT.syn
      refine (Tryd.strconv_Atoi_syntax_var ⟨l.toArray⟩ (by simp [ByteArray.size]; omega) ha tp p w h).mono ?_
      rintro e w' ⟨N, rfl, _, _, hb⟩
      exact ⟨0, _, rfl, hv 0, Kept.of_below0 hb⟩
    | range =>
      obtain ⟨tp, p, h⟩ := hT.rng
      refine (Tryd.strconv_Atoi_range_var ⟨l.toArray⟩ (by simp [ByteArray.size]; omega) ha tp p w h).mono ?_
      rintro e w' ⟨N, rfl, _, _, hb⟩
      exact ⟨_, _, rfl, hv _, Kept.of_below0 hb⟩
theorem dig_no (k : Nat) : ∀ n, ∀ x ∈ dig n k, x ≠ 32 := by
  induction k with
  | zero => intro n x hx; simp [dig] at hx
  | succ k ih =>
    intro n x hx
    rw [dig, List.mem_append] at hx
    rcases hx with hx | hx
    · exact ih _ x hx
    · obtain rfl := List.mem_singleton.1 hx
      intro e
      have := congrArg UInt8.toNat e
      rw [UInt8.toNat_ofNat'] at this
      have h32 : UInt8.toNat 32 = 32 := rfl
      omega
def bodyL (t : List UInt8) : List UInt8 := Lib.trimSuffix (Lib.trimPrefix t [115, 116, 97, 116, 101, 32]) [10]
theorem body_print (s : St) : bodyL (printL s) = [32].intercalate (rowsL s) := by
  rw [← rows_join s]
  change bodyL ([115, 116, 97, 116, 101, 32] ++ [32].intercalate (rowsL s) ++ [10]) = _
  generalize [32].intercalate (rowsL s) = x
  have h1 : Lib.trimPrefix ([115, 116, 97, 116, 101, 32] ++ x ++ [10]) [115, 116, 97, 116, 101, 32] = x ++ [10] := by
    unfold Lib.trimPrefix
    have : Lib.hasPrefix ([115, 116, 97, 116, 101, 32] ++ x ++ [10]) [115, 116, 97, 116, 101, 32] = true := by simp [Lib.hasPrefix, List.isPrefixOf]
    rw [this]; simp
  unfold bodyL
  rw [h1]
  unfold Lib.trimSuffix
  have : Lib.hasSuffix (x ++ [10]) [10] = true := by simp [Lib.hasSuffix]
  rw [this]; simp
theorem pieces_print (s : St) : WX.pieces 32 (bodyL (printL s)) = rowsL s := by
  rw [body_print]
  refine WX.pieces_of_join 32 _ (by simp [rowsL]) ?_
  intro n hn x hx
  simp [rowsL] at hn
  rcases hn with rfl | rfl | rfl | rfl | rfl | rfl | rfl <;> exact dig_no _ _ x hx
theorem bodyL_len (t : List UInt8) : (bodyL t).length ≤ t.length := by
  unfold bodyL Lib.trimSuffix Lib.trimPrefix
  repeat' split
  all_goals simp
  all_goals omega
/-! ### updater.Parse -/
theorem print_at (s : St) (l : List UInt8) (n : Int) (w : World) (h : printF s = (l, n)) (hT : Tabs w) :
    Calls Tryd.prog 14 #[VS s] w fun e w' => e = .returned (.tuple #[S l, I n]) ∧ Kept [] w w' := by
  have := print_any s w hT
  rw [h] at this
  exact this
theorem parse_long (t : List UInt8) (h : (WX.pieces 32 (bodyL t)).length ≠ 7) : parseF t = (zeroS, 250) := by
  refine parseF_no ?_
  rintro ⟨s, _, rfl⟩
  rw [pieces_print] at h
  exact h rfl
def NumsOf (rows : List (List UInt8)) (ns : List Int) : Prop := ns.length = 7 ∧ ∀ j, j < 7 → ∀ m wd : Nat, rows.getD j [] = dig m (wd + 1) → m < 10 ^ (wd + 1) → wd < 15 → ns.getD j 0 = m
def NumsTo (k : Nat) (rows : List (List UInt8)) (ns : List Int) : Prop := ns.length = 7 ∧ ∀ j, j < k → ∀ m wd : Nat, rows.getD j [] = dig m (wd + 1) → m < 10 ^ (wd + 1) → wd < 15 → ns.getD j 0 = m
theorem NumsTo.snoc {k : Nat} {rows : List (List UInt8)} {ns : List Int} {n : Int} (h : NumsTo k rows ns) (hk : k < 7) (hn : ∀ m wd : Nat, rows.getD k [] = dig m (wd + 1) → m < 10 ^ (wd + 1) → wd < 15 → n = m) : NumsTo (k + 1) rows (ns.set k n) := by
  refine ⟨by rw [List.length_set]; exact h.1, fun j hj m wd e1 e2 e3 => ?_⟩
  by_cases hjk : j = k
  · subst hjk
    rw [List.getD_eq_getElem?_getD, List.getElem?_set_self (by rw [h.1]; exact hk)]
    exact hn m wd e1 e2 e3
  · rw [List.getD_eq_getElem?_getD, List.getElem?_set_ne (by omega), ← List.getD_eq_getElem?_getD]
    exact h.2 j (by omega) m wd e1 e2 e3
def ofNums (ns : List Int) : St := ⟨ns.getD 0 0, ns.getD 1 0, ns.getD 2 0, ns.getD 3 0, ns.getD 4 0, ns.getD 5 0 == 1, ns.getD 6 0⟩
theorem nums_yes {s : St} (h : MayP s) {ns : List Int} (hn : NumsOf (rowsL s) ns) : ofNums ns = s := by
  have key : ∀ j, j < 7 → ns.getD j 0 = (numsL s).getD j 0 := by
    intro j hj
    obtain ⟨m, wd, e1, e2, e3, e4, e5⟩ := col_at h j hj
    rw [hn.2 j hj m wd e4 e3 e5, e1]
  have k0 := key 0 (by omega)
  have k1 := key 1 (by omega)
  have k2 := key 2 (by omega)
  have k3 := key 3 (by omega)
  have k4 := key 4 (by omega)
  have k5 := key 5 (by omega)
  have k6 := key 6 (by omega)
  unfold ofNums
  rw [k0, k1, k2, k3, k4, k5, k6]
  cases s with
  | mk a b c d e f g =>
    simp only [numsL, List.getD_cons_zero, List.getD_cons_succ, St.mk.injEq, true_and, and_true]
    cases f <;> rfl
theorem parse_nums {t : List UInt8} {ns : List Int} (hn : NumsOf (WX.pieces 32 (bodyL t)) ns) (hno : ¬ (MayP (ofNums ns) ∧ printL (ofNums ns) = t)) : parseF t = (zeroS, 250) := by
  refine parseF_no ?_
  rintro ⟨s, hs, rfl⟩
  rw [pieces_print] at hn
  rw [nums_yes hs hn] at hno
  exact hno ⟨hs, rfl⟩
theorem parse_yes {t : List UInt8} {ns : List Int} (h1 : MayP (ofNums ns)) (h2 : printL (ofNums ns) = t) : parseF t = (ofNums ns, 0) := by
  rw [← h2]; exact parseF_yes h1
theorem ret_P {p q : St × Int} (h : p = q) : Ending.returned (VT p) = .returned (VT q) := by rw [h]
set_option maxHeartbeats 4000000 in
set_option maxRecDepth 100000 in
theorem parse_short (t : List UInt8) (w : World) (hl : t.length ≤ 1073741824) (hT : Tabs w) (h : (WX.pieces 32 (bodyL t)).length ≠ 7) :
    Calls Tryd.prog 16 #[S t] w fun e w' => e = .returned (VT (parseF t)) ∧ Kept [] w w' := by
  rw [parse_long t h]
  have HT := Lib.hid hT
  obtain ⟨x, hx⟩ : ∃ x, Lib.trimPrefix t [115, 116, 97, 116, 101, 32] = x := ⟨_, rfl⟩
  obtain ⟨y, hy⟩ : ∃ y, Lib.trimSuffix x [10] = y := ⟨_, rfl⟩
  have hyl : y.length ≤ t.length := by rw [← hy, ← hx]; exact bodyL_len t
  have hxl : x.length ≤ t.length := by rw [← hx]; unfold Lib.trimPrefix; split <;> simp
  have hp : WX.pieces 32 (bodyL t) = WX.pieces 32 y := by rw [← hy, ← hx]; rfl
  rw [hp] at h
  have hpl := pieces_len 32 y
  have C1 := Lib.hid (fun W => by have := cutprefix_any [115, 116, 97, 116, 101, 32] t W; rw [hx] at this; exact this)
  have C2 := Lib.hid (fun W => by have := trimsuffix_any [10] x W (by omega); rw [hy] at this; exact this)
  generalize hm : Lib.hasPrefix t [115, 116, 97, 116, 101, 32] = bb at C1
  clear hx hy hp hT hm
  have C3 := Lib.hid (fun W (hW : Tabs W) => split_any 32 y W (by omega) hW.len)
  generalize (WX.pieces 32 y).length = n at *
  have hn : ((n : Int) != 7) = true := by rw [bne_iff_ne]; omega
  have hn' : (n : Int) ≤ 1073741825 := by omega
  clear h
  go_enter Tryd.func16, Tryd.ntmps16
  go_wp2_with (fail)
  refine (C1.out _).mono ?_
  rintro e w1 ⟨rfl, rfl⟩
  go_wp2_with (fail)
  refine (C2.out _).mono ?_
  rintro e w1 ⟨rfl, rfl⟩
  go_wp2_with (fail)
  refine (C3.out _ (HT.out.kept ((Kept.refl _ _).alloc _))).mono ?_
  rintro e w1 ⟨rfl, rfl⟩
  go_wp2_with (fail)
  refine (widths_any _).mono ?_
  rintro e w2 ⟨rfl, rfl⟩
  go_wp2
  go_returns
  exact ⟨rfl, (((Kept.refl _ _).alloc _).alloc _).alloc _⟩
theorem nums_cells {ns : List Int} (h : ns.length = 7) : ∃ n0 n1 n2 n3 n4 n5 n6, ns = [n0, n1, n2, n3, n4, n5, n6] := by
  match ns, h with
  | [n0, n1, n2, n3, n4, n5, n6], _ => exact ⟨n0, n1, n2, n3, n4, n5, n6, rfl⟩
theorem cells7 {w : World} {b : Nat} {a0 a1 a2 a3 a4 a5 a6 : Value} {T : TypeId} (h : w.heap[b]? = some (.cells #[a0, a1, a2, a3, a4, a5, a6] T (0, 0))) :
    w.cell? ⟨b, 0, none⟩ = some a0 ∧ w.cell? ⟨b, 1, none⟩ = some a1 ∧ w.cell? ⟨b, 2, none⟩ = some a2 ∧ w.cell? ⟨b, 3, none⟩ = some a3 ∧ w.cell? ⟨b, 4, none⟩ = some a4 ∧ w.cell? ⟨b, 5, none⟩ = some a5 ∧ w.cell? ⟨b, 6, none⟩ = some a6 := by
  refine ⟨?_, ?_, ?_, ?_, ?_, ?_, ?_⟩ <;> rw [cell_at h] <;> rfl
theorem frozen7 {w : World} {b : Nat} {a0 a1 a2 a3 a4 a5 a6 : Value} {T : TypeId} (h : w.heap[b]? = some (.cells #[a0, a1, a2, a3, a4, a5, a6] T (0, 0))) :
    w.frozen? ⟨b, 0, none⟩ = false ∧ w.frozen? ⟨b, 1, none⟩ = false ∧ w.frozen? ⟨b, 2, none⟩ = false ∧ w.frozen? ⟨b, 3, none⟩ = false ∧ w.frozen? ⟨b, 4, none⟩ = false ∧ w.frozen? ⟨b, 5, none⟩ = false ∧ w.frozen? ⟨b, 6, none⟩ = false := by
  refine ⟨?_, ?_, ?_, ?_, ?_, ?_, ?_⟩ <;> exact free_at h _
theorem set_nums (ns : List Int) (k : Nat) (n : Int) : (ns.map I).toArray.setIfInBounds k (I n) = ((ns.set k n).map I).toArray := by
  apply Array.ext'
  simp [List.map_set]
theorem num_cell {ns : List Int} (h : ns.length = 7) (k : Nat) (hk : k < 7) : (ns.map I).toArray[k]? = some (I (ns.getD k 0)) := by
  simp [List.getD, h, hk]
set_option maxHeartbeats 20000000 in
set_option maxRecDepth 100000 in
theorem parse_seven (t : List UInt8) (w : World) (hl : t.length ≤ 1073741824) (hT : Tabs w) (h : (WX.pieces 32 (bodyL t)).length = 7) :
    Calls Tryd.prog 16 #[S t] w fun e w' => e = .returned (VT (parseF t)) ∧ Kept [] w w' := by
  have HT := Lib.hid hT
  obtain ⟨x, hx⟩ : ∃ x, Lib.trimPrefix t [115, 116, 97, 116, 101, 32] = x := ⟨_, rfl⟩
  obtain ⟨y, hy⟩ : ∃ y, Lib.trimSuffix x [10] = y := ⟨_, rfl⟩
  have hyl : y.length ≤ t.length := by rw [← hy, ← hx]; exact bodyL_len t
  have hxl : x.length ≤ t.length := by rw [← hx]; unfold Lib.trimPrefix; split <;> simp
  have hp : bodyL t = y := by rw [← hy, ← hx]; rfl
  rw [hp] at h
  have hmem := pieces_mem 32 y
  have C1 := Lib.hid (fun W => by have := cutprefix_any [115, 116, 97, 116, 101, 32] t W; rw [hx] at this; exact this)
  have C2 := Lib.hid (fun W => by have := trimsuffix_any [10] x W (by omega); rw [hy] at this; exact this)
  generalize hm : Lib.hasPrefix t [115, 116, 97, 116, 101, 32] = bb at C1
  have HP := Lib.hid hp
  clear hx hy hp hT hm
  have C3 := Lib.hid (fun W (hW : Tabs W) => split_any 32 y W (by omega) hW.len)
  generalize hps : WX.pieces 32 y = ps at *
  have HPS := Lib.hid hps
  have HM := Lib.hid hmem
  have HL := Lib.hid h
  clear hmem hps
  rw [h] at C3
  clear h
  go_enter Tryd.func16, Tryd.ntmps16
  go_wp2_with (fail)
  refine (C1.out _).mono ?_
  rintro e w1 ⟨rfl, rfl⟩
  go_wp2_with (fail)
  refine (C2.out _).mono ?_
  rintro e w1 ⟨rfl, rfl⟩
  go_wp2_with (fail)
  refine (C3.out _ (HT.out.kept ((Kept.refl _ _).alloc _))).mono ?_
  rintro e w1 ⟨rfl, rfl⟩
  go_wp2_with (fail)
  refine (widths_any _).mono ?_
  rintro e w2 ⟨rfl, rfl⟩
  go_wp2_with (fail)
  generalize hWL : (((w.alloc (.cells #[.int .i64 0, .int .i64 0, .int .i64 0, .int .i64 0, .int .i64 0, .bool false, .int .i64 0] 23)).alloc (.cells (ps.map S).toArray 9)).alloc (.cells #[I 1, I 10, I 1, I 8, I 15, I 1, I 10] 3)).alloc (.cells #[.int .i64 0, .int .i64 0, .int .i64 0, .int .i64 0, .int .i64 0, .int .i64 0, .int .i64 0] 52) = WL
  have hkL : Kept [] w WL := by rw [← hWL]; exact ((((Kept.refl _ _).alloc _).alloc _).alloc _).alloc _
  have hsL : WL.heap.size = w.heap.size + 4 := by rw [← hWL]; simp
  have hb0 : WL.heap[w.heap.size]? = some (.cells #[.int .i64 0, .int .i64 0, .int .i64 0, .int .i64 0, .int .i64 0, .bool false, .int .i64 0] 23 (0, 0)) := by
    rw [← hWL]; exact ((((Kept.refl [] _).alloc _).alloc _).alloc _).at (iter_at w _ _ rfl) (by simp)
  have hb1 : WL.heap[w.heap.size + 1]? = some (.cells (ps.map S).toArray 9 (0, 0)) := by
    rw [← hWL]; exact (((Kept.refl [] _).alloc _).alloc _).at (iter_at (w.alloc _) _ _ (by simp)) (by simp)
  have hb3 : WL.heap[w.heap.size + 1 + 1 + 1]? = some (.cells #[.int .i64 0, .int .i64 0, .int .i64 0, .int .i64 0, .int .i64 0, .int .i64 0, .int .i64 0] 52 (0, 0)) := by
    rw [← hWL]; exact iter_at _ _ _ (by simp)
  have HB := Lib.hid (And.intro hb0 (And.intro hb1 (And.intro hb3 (And.intro hkL hsL))))
  clear hb0 hb1 hb3 hkL hsL hWL C1 C2 C3 hxl
  go_loopw [29] (fun i wr => ∃ (k : Nat) (ns : List Int), k ≤ 7 ∧ i = I k ∧ NumsTo k ps ns ∧ wr.heap[w.heap.size + 1 + 1 + 1]? = some (.cells (ns.map I).toArray 52 (0, 0)) ∧ Kept [w.heap.size + 1 + 1 + 1] WL wr) (fun i _ => 7 - (intOf i).toNat)
  case atStart => exact ⟨0, [0, 0, 0, 0, 0, 0, 0], by omega, rfl, ⟨rfl, fun j hj => absurd hj (Nat.not_lt_zero _)⟩, HB.out.2.2.1, Kept.refl _ _⟩
  case round =>
    obtain ⟨k, ns, hk, rfl, hnt, hbn, hkw⟩ := hrel
    have HK := Lib.hid (And.intro hnt (And.intro hbn hkw))
    clear hnt hbn hkw
    have kw : Kept [] w wr := HB.out.2.2.2.1.new1 HK.out.2.2 (by omega)
    have HW := Lib.hid (And.intro kw (HT.out.kept kw))
    clear kw
    by_cases hlt : k < 7
    · have hlt' : (k : Int) < 7 := by omega
      have hcell : wr.cell? ⟨w.heap.size + 1, k, none⟩ = some (S (ps.getD k [])) := by
        have := HK.out.2.2.at HB.out.2.1 (by simp)
        rw [cell_at this]
        have := HL.out
        simp [List.getD, show k < ps.length by omega]
      obtain ⟨p, hp⟩ : ∃ p, ps.getD k [] = p := ⟨_, rfl⟩
      rw [hp] at hcell
      have hpl : p.length ≤ y.length := by
        refine HM.out p ?_
        rw [← hp, getD_eq _ _ _ (by rw [HL.out]; exact hlt)]
        exact List.getElem_mem _
      have HPK := Lib.hid hp
      clear hp
      go_wp2_with (fail)
      refine (atoi_post p wr (by omega) HW.out.2).mono ?_
      rintro e w1 ⟨n, v, rfl, hq, k1⟩
      have hb1 : w1.heap[w.heap.size + 1 + 1 + 1]? = some (.cells (ns.map I).toArray 52 (0, 0)) := k1.at HK.out.2.1 (by simp)
      have hc1 : w1.cell? ⟨w.heap.size + 1 + 1 + 1, k, none⟩ = some (I (ns.getD k 0)) := by rw [cell_at hb1]; exact num_cell HK.out.1.1 k hlt
      have hf1 : w1.frozen? ⟨w.heap.size + 1 + 1 + 1, k, none⟩ = false := free_at hb1 k
      have H1 := Lib.hid (And.intro hb1 (And.intro k1 hq))
      clear hb1 k1 hq
      go_wp2
      go_roundw
      case rel =>
        refine ⟨k + 1, ns.set k n, by omega, by go_num, HK.out.1.snoc hlt (by rw [HPK.out]; exact H1.out.2.2), ?_, ?_⟩
        · rw [← set_nums]; exact heap_setCell_at H1.out.1 k (I n)
        · exact (HK.out.2.2.trans' (H1.out.2.1.mono (by simp))).setCell (.inl (by simp)) _
      case measure => simp [intOf]; omega
    · obtain rfl : k = 7 := by omega
      obtain ⟨n0, n1, n2, n3, n4, n5, n6, rfl⟩ := nums_cells HK.out.1.1
      have hbn := HK.out.2.1
      have c0 : wr.cell? ⟨w.heap.size + 1 + 1 + 1, 0, none⟩ = some (I n0) := by rw [cell_at hbn]; rfl
      have c1 : wr.cell? ⟨w.heap.size + 1 + 1 + 1, 1, none⟩ = some (I n1) := by rw [cell_at hbn]; rfl
      have c2 : wr.cell? ⟨w.heap.size + 1 + 1 + 1, 2, none⟩ = some (I n2) := by rw [cell_at hbn]; rfl
      have c3 : wr.cell? ⟨w.heap.size + 1 + 1 + 1, 3, none⟩ = some (I n3) := by rw [cell_at hbn]; rfl
      have c4 : wr.cell? ⟨w.heap.size + 1 + 1 + 1, 4, none⟩ = some (I n4) := by rw [cell_at hbn]; rfl
      have c5 : wr.cell? ⟨w.heap.size + 1 + 1 + 1, 5, none⟩ = some (I n5) := by rw [cell_at hbn]; rfl
      have c6 : wr.cell? ⟨w.heap.size + 1 + 1 + 1, 6, none⟩ = some (I n6) := by rw [cell_at hbn]; rfl
      have hnt : NumsOf (WX.pieces 32 (bodyL t)) [n0, n1, n2, n3, n4, n5, n6] := by rw [HP.out, HPS.out]; exact HK.out.1
      have HN := Lib.hid hnt
      clear hnt hbn
      have hb0 : wr.heap[w.heap.size]? = some (.cells #[.int .i64 0, .int .i64 0, .int .i64 0, .int .i64 0, .int .i64 0, .bool false, .int .i64 0] 23 (0, 0)) := HK.out.2.2.at HB.out.1 (by simp; omega)
      have H0 := Lib.hid hb0
      clear hb0
      by_cases hM : MayP (ofNums [n0, n1, n2, n3, n4, n5, n6])
      · obtain ⟨u, hu⟩ : ∃ u, printL (ofNums [n0, n1, n2, n3, n4, n5, n6]) = u := ⟨_, rfl⟩
        have hpf : printF ⟨n0, n1, n2, n3, n4, n5 == 1, n6⟩ = (u, 0) := by unfold printF; rw [if_pos (show MayP ⟨n0, n1, n2, n3, n4, n5 == 1, n6⟩ from hM)]; exact congrArg (·, (0 : Int)) hu
        by_cases hE : u = t
        · subst hE
          have HR := Lib.hid (And.intro (parse_yes hM hu) hpf)
          clear hu hM hpf
          go_wp2_with (fail)
          refine (print_at ⟨n0, n1, n2, n3, n4, n5 == 1, n6⟩ u 0 _ HR.out.2 (HW.out.2.kept ((Kept.refl _ _).alloc _))).mono ?_
          rintro e w1 ⟨rfl, k1⟩
          have hbs : w1.heap[wr.heap.size]? = some (.cells #[I n0, I n1, I n2, I n3, I n4, .bool (n5 == 1), I n6] 23 (0, 0)) := k1.at (heap_new wr _) (by simp)
          have hbz : w1.heap[w.heap.size]? = some (.cells #[.int .i64 0, .int .i64 0, .int .i64 0, .int .i64 0, .int .i64 0, .bool false, .int .i64 0] 23 (0, 0)) := k1.at (((Kept.refl [] wr).alloc _).at H0.out (by simp)) (by simp)
          obtain ⟨s0, s1, s2, s3, s4, s5, s6⟩ := cells7 hbs
          obtain ⟨z0, z1, z2, z3, z4, z5, z6⟩ := cells7 hbz
          obtain ⟨f0, f1, f2, f3, f4, f5, f6⟩ := frozen7 hbz
          clear hbs hbz
          have H1 := Lib.hid (HW.out.1.trans' (((Kept.refl [] wr).alloc _).trans' k1))
          clear k1
          go_wp2
          refine bodyPost_ret (v := VT (⟨n0, n1, n2, n3, n4, n5 == 1, n6⟩, 0)) (by simp [results, Tryd.results16, go_sem, z0, z1, z2, z3, z4, z5, z6]) rfl ?_
          refine ⟨?_, ?_⟩
          · rw [HR.out.1]; rfl
          · exact ((((((H1.out.new1 ((Kept.refl [w.heap.size] w1).setCell (.inl (by simp)) _) (Nat.le_refl _)).new1 ((Kept.refl [w.heap.size] _).setCell (.inl (by simp)) _) (Nat.le_refl _)).new1 ((Kept.refl [w.heap.size] _).setCell (.inl (by simp)) _) (Nat.le_refl _)).new1 ((Kept.refl [w.heap.size] _).setCell (.inl (by simp)) _) (Nat.le_refl _)).new1 ((Kept.refl [w.heap.size] _).setCell (.inl (by simp)) _) (Nat.le_refl _)).new1 ((Kept.refl [w.heap.size] _).setCell (.inl (by simp)) _) (Nat.le_refl _)).new1 ((Kept.refl [w.heap.size] _).setCell (.inl (by simp)) _) (Nat.le_refl _)
        · have hnt := (beq_eq_false_iff_ne (a := u) (b := t)).2 hE
          have HR := Lib.hid (And.intro (parse_nums HN.out (fun h => hE (hu.symm.trans h.2))) hpf)
          clear hu hM hpf hE
          go_wp2_with (fail)
          refine (print_at ⟨n0, n1, n2, n3, n4, n5 == 1, n6⟩ u 0 _ HR.out.2 (HW.out.2.kept ((Kept.refl _ _).alloc _))).mono ?_
          rintro e w1 ⟨rfl, k1⟩
          have hbz : w1.heap[w.heap.size]? = some (.cells #[.int .i64 0, .int .i64 0, .int .i64 0, .int .i64 0, .int .i64 0, .bool false, .int .i64 0] 23 (0, 0)) := k1.at (((Kept.refl [] wr).alloc _).at H0.out (by simp)) (by simp)
          obtain ⟨z0, z1, z2, z3, z4, z5, z6⟩ := cells7 hbz
          obtain ⟨f0, f1, f2, f3, f4, f5, f6⟩ := frozen7 hbz
          clear hbz
          have H1 := Lib.hid (HW.out.1.trans' (((Kept.refl [] wr).alloc _).trans' k1))
          clear k1
          go_wp2
          refine bodyPost_ret (v := VT (zeroS, 250)) (by simp [results, Tryd.results16, go_sem, z0, z1, z2, z3, z4, z5, z6, zeroS]) rfl ?_
          refine ⟨?_, ?_⟩
          · rw [HR.out.1]
          · exact ((((((H1.out.new1 ((Kept.refl [w.heap.size] w1).setCell (.inl (by simp)) _) (Nat.le_refl _)).new1 ((Kept.refl [w.heap.size] _).setCell (.inl (by simp)) _) (Nat.le_refl _)).new1 ((Kept.refl [w.heap.size] _).setCell (.inl (by simp)) _) (Nat.le_refl _)).new1 ((Kept.refl [w.heap.size] _).setCell (.inl (by simp)) _) (Nat.le_refl _)).new1 ((Kept.refl [w.heap.size] _).setCell (.inl (by simp)) _) (Nat.le_refl _)).new1 ((Kept.refl [w.heap.size] _).setCell (.inl (by simp)) _) (Nat.le_refl _)).new1 ((Kept.refl [w.heap.size] _).setCell (.inl (by simp)) _) (Nat.le_refl _)
      · have hpf : printF ⟨n0, n1, n2, n3, n4, n5 == 1, n6⟩ = ([], 250) := by unfold printF; rw [if_neg (show ¬ MayP ⟨n0, n1, n2, n3, n4, n5 == 1, n6⟩ from hM)]
        have HR := Lib.hid (And.intro (parse_nums HN.out (fun h => hM h.1)) hpf)
        clear hM hpf
        go_wp2_with (fail)
        refine (print_at ⟨n0, n1, n2, n3, n4, n5 == 1, n6⟩ [] 250 _ HR.out.2 (HW.out.2.kept ((Kept.refl _ _).alloc _))).mono ?_
        rintro e w1 ⟨rfl, k1⟩
        have hbz : w1.heap[w.heap.size]? = some (.cells #[.int .i64 0, .int .i64 0, .int .i64 0, .int .i64 0, .int .i64 0, .bool false, .int .i64 0] 23 (0, 0)) := k1.at (((Kept.refl [] wr).alloc _).at H0.out (by simp)) (by simp)
        obtain ⟨z0, z1, z2, z3, z4, z5, z6⟩ := cells7 hbz
        obtain ⟨f0, f1, f2, f3, f4, f5, f6⟩ := frozen7 hbz
        clear hbz
        have H1 := Lib.hid (HW.out.1.trans' (((Kept.refl [] wr).alloc _).trans' k1))
        clear k1
        go_wp2
        refine bodyPost_ret (v := VT (zeroS, 250)) (by simp [results, Tryd.results16, go_sem, z0, z1, z2, z3, z4, z5, z6, zeroS]) rfl ?_
        refine ⟨?_, ?_⟩
        · rw [HR.out.1]
        · exact ((((((H1.out.new1 ((Kept.refl [w.heap.size] w1).setCell (.inl (by simp)) _) (Nat.le_refl _)).new1 ((Kept.refl [w.heap.size] _).setCell (.inl (by simp)) _) (Nat.le_refl _)).new1 ((Kept.refl [w.heap.size] _).setCell (.inl (by simp)) _) (Nat.le_refl _)).new1 ((Kept.refl [w.heap.size] _).setCell (.inl (by simp)) _) (Nat.le_refl _)).new1 ((Kept.refl [w.heap.size] _).setCell (.inl (by simp)) _) (Nat.le_refl _)).new1 ((Kept.refl [w.heap.size] _).setCell (.inl (by simp)) _) (Nat.le_refl _)).new1 ((Kept.refl [w.heap.size] _).setCell (.inl (by simp)) _) (Nat.le_refl _)
theorem parse_any (t : List UInt8) (w : World) (hl : t.length ≤ 1073741824) (hT : Tabs w) :
    Calls Tryd.prog 16 #[S t] w fun e w' => e = .returned (VT (parseF t)) ∧ Kept [] w w' := by
  by_cases h : (WX.pieces 32 (bodyL t)).length = 7
  · exact parse_seven t w hl hT h
  · exact parse_short t w hl hT h
end Go.Proofs.YtlchdokpkaikhaaDoor
