/- Walks and lemmas on the program of this seat, used by its statements; each theorem bears its own conditions. -/
import Derived.Test.YtlchdokpkaikhaaDoorLS
import Derived.Handy
import Derived.IntWalk
import Derived.Deep.RegionHeld3
namespace Go.Proofs.YtlchdokpkaikhaaDoor
open Go.RowKit
set_option linter.unusedVariables false
set_option linter.unusedSimpArgs false
/-! ### The reference's Parse -/
theorem cut_mid (A B C : List UInt8) (i j : Nat) (hi : i = A.length) (hj : j = A.length + B.length) : ((A ++ B ++ C).take j).drop i = B := by
  subst hi; subst hj
  rw [List.take_left' (by simp), List.drop_left' rfl]
theorem cut_print (s : St) :
    ((printL s).take 7).drop 6 = dig s.ph.toNat 1 ∧ ((printL s).take 18).drop 8 = dig s.id.toNat 10 ∧ ((printL s).take 20).drop 19 = dig s.sl.toNat 1 ∧ ((printL s).take 29).drop 21 = dig s.sz.toNat 8 ∧
    ((printL s).take 45).drop 30 = dig s.sq.toNat 15 ∧ ((printL s).take 47).drop 46 = dig (if s.ok then 1 else 0) 1 ∧ ((printL s).take 58).drop 48 = dig s.la.toNat 10 := by
  have e1 : printL s = [115, 116, 97, 116, 101, 32] ++ dig s.ph.toNat 1 ++ ([32] ++ dig s.id.toNat 10 ++ [32] ++ dig s.sl.toNat 1 ++ [32] ++ dig s.sz.toNat 8 ++ [32] ++ dig s.sq.toNat 15 ++ [32] ++ dig (if s.ok then 1 else 0) 1 ++ [32] ++ dig s.la.toNat 10 ++ [10]) := by simp [printL]
  have e2 : printL s = ([115, 116, 97, 116, 101, 32] ++ dig s.ph.toNat 1 ++ [32]) ++ dig s.id.toNat 10 ++ ([32] ++ dig s.sl.toNat 1 ++ [32] ++ dig s.sz.toNat 8 ++ [32] ++ dig s.sq.toNat 15 ++ [32] ++ dig (if s.ok then 1 else 0) 1 ++ [32] ++ dig s.la.toNat 10 ++ [10]) := by simp [printL]
  have e3 : printL s = ([115, 116, 97, 116, 101, 32] ++ dig s.ph.toNat 1 ++ [32] ++ dig s.id.toNat 10 ++ [32]) ++ dig s.sl.toNat 1 ++ ([32] ++ dig s.sz.toNat 8 ++ [32] ++ dig s.sq.toNat 15 ++ [32] ++ dig (if s.ok then 1 else 0) 1 ++ [32] ++ dig s.la.toNat 10 ++ [10]) := by simp [printL]
  have e4 : printL s = ([115, 116, 97, 116, 101, 32] ++ dig s.ph.toNat 1 ++ [32] ++ dig s.id.toNat 10 ++ [32] ++ dig s.sl.toNat 1 ++ [32]) ++ dig s.sz.toNat 8 ++ ([32] ++ dig s.sq.toNat 15 ++ [32] ++ dig (if s.ok then 1 else 0) 1 ++ [32] ++ dig s.la.toNat 10 ++ [10]) := by simp [printL]
  have e5 : printL s = ([115, 116, 97, 116, 101, 32] ++ dig s.ph.toNat 1 ++ [32] ++ dig s.id.toNat 10 ++ [32] ++ dig s.sl.toNat 1 ++ [32] ++ dig s.sz.toNat 8 ++ [32]) ++ dig s.sq.toNat 15 ++ ([32] ++ dig (if s.ok then 1 else 0) 1 ++ [32] ++ dig s.la.toNat 10 ++ [10]) := by simp [printL]
  have e6 : printL s = ([115, 116, 97, 116, 101, 32] ++ dig s.ph.toNat 1 ++ [32] ++ dig s.id.toNat 10 ++ [32] ++ dig s.sl.toNat 1 ++ [32] ++ dig s.sz.toNat 8 ++ [32] ++ dig s.sq.toNat 15 ++ [32]) ++ dig (if s.ok then 1 else 0) 1 ++ ([32] ++ dig s.la.toNat 10 ++ [10]) := by simp [printL]
  have e7 : printL s = ([115, 116, 97, 116, 101, 32] ++ dig s.ph.toNat 1 ++ [32] ++ dig s.id.toNat 10 ++ [32] ++ dig s.sl.toNat 1 ++ [32] ++ dig s.sz.toNat 8 ++ [32] ++ dig s.sq.toNat 15 ++ [32] ++ dig (if s.ok then 1 else 0) 1 ++ [32]) ++ dig s.la.toNat 10 ++ [10] := by simp [printL]
  refine ⟨?_, ?_, ?_, ?_, ?_, ?_, ?_⟩
  · rw [e1]; exact cut_mid _ _ _ _ _ (by simp only [List.length_append, dig_len, List.length_cons, List.length_nil]) (by simp only [List.length_append, dig_len, List.length_cons, List.length_nil])
  · rw [e2]; exact cut_mid _ _ _ _ _ (by simp only [List.length_append, dig_len, List.length_cons, List.length_nil]) (by simp only [List.length_append, dig_len, List.length_cons, List.length_nil])
  · rw [e3]; exact cut_mid _ _ _ _ _ (by simp only [List.length_append, dig_len, List.length_cons, List.length_nil]) (by simp only [List.length_append, dig_len, List.length_cons, List.length_nil])
  · rw [e4]; exact cut_mid _ _ _ _ _ (by simp only [List.length_append, dig_len, List.length_cons, List.length_nil]) (by simp only [List.length_append, dig_len, List.length_cons, List.length_nil])
  · rw [e5]; exact cut_mid _ _ _ _ _ (by simp only [List.length_append, dig_len, List.length_cons, List.length_nil]) (by simp only [List.length_append, dig_len, List.length_cons, List.length_nil])
  · rw [e6]; exact cut_mid _ _ _ _ _ (by simp only [List.length_append, dig_len, List.length_cons, List.length_nil]) (by simp only [List.length_append, dig_len, List.length_cons, List.length_nil])
  · rw [e7]; exact cut_mid _ _ _ _ _ (by simp only [List.length_append, dig_len, List.length_cons, List.length_nil]) (by simp only [List.length_append, dig_len, List.length_cons, List.length_nil])
def readS (t : List UInt8) : St := ⟨num ((t.take 7).drop 6), num ((t.take 18).drop 8), num ((t.take 20).drop 19), num ((t.take 29).drop 21), num ((t.take 45).drop 30), ((byteAt t 46).toNat : Int) == 49, num ((t.take 58).drop 48)⟩
theorem read_print {s : St} (h : MayP s) : readS (printL s) = s := by
  obtain ⟨c1, c2, c3, c4, c5, c6, c7⟩ := cut_print s
  obtain ⟨a1, a2, a3, a4, a5, a6⟩ := h.bd
  have p1 : (10 : Nat) ^ 1 = 10 := by decide
  have p8 : (10 : Nat) ^ 8 = 100000000 := by decide
  have p10 : (10 : Nat) ^ 10 = 10000000000 := by decide
  have p15 : (10 : Nat) ^ 15 = 1000000000000000 := by decide
  have hb : byteAt (printL s) 46 = UInt8.ofNat (48 + (if s.ok then 1 else 0)) := by
    have h1 : byteAt (((printL s).take 47).drop 46) 0 = byteAt (printL s) 46 := by
      rw [byteAt_drop]; unfold byteAt
      rw [List.getD_eq_getElem?_getD, List.getElem?_take_of_lt (by omega), ← List.getD_eq_getElem?_getD]
    rw [← h1, c6]
    cases s.ok <;> rfl
  unfold readS
  rw [c1, c2, c3, c4, c5, c7, hb, num_dig _ _ (by rw [p1]; omega), num_dig _ _ (by rw [p10]; omega), num_dig _ _ (by rw [p1]; omega), num_dig _ _ (by rw [p8]; omega), num_dig _ _ (by rw [p15]; omega), num_dig _ _ (by rw [p10]; omega)]
  cases s with
  | mk a b c d e f g =>
    simp only [St.mk.injEq] at *
    refine ⟨by omega, by omega, by omega, by omega, by omega, ?_, by omega⟩
    cases f <;> rfl
theorem rparse_no {t : List UInt8} (hno : ¬ (MayP (readS t) ∧ printL (readS t) = t)) : parseF t = (zeroS, 250) := by
  refine parseF_no ?_
  rintro ⟨s, hs, rfl⟩
  rw [read_print hs] at hno
  exact hno ⟨hs, rfl⟩
theorem rparse_yes {t : List UInt8} (h1 : MayP (readS t)) (h2 : printL (readS t) = t) : parseF t = (readS t, 0) := by
  have := parseF_yes h1
  rw [h2] at this; exact this
theorem rprint_at (s : St) (l : List UInt8) (n : Int) (w : World) (h : printF s = (l, n)) :
    Calls Tryd.prog 15 #[VS s] w fun e w' => e = .returned (.tuple #[S l, I n]) ∧ Kept [] w w' := by
  have := rprint_any s w
  rw [h] at this
  exact this
def RP (B : Nat) (s : St) (w wx : World) : Prop := wx.heap[B]? = some (.cells #[.int .i64 0, .int .i64 0, .int .i64 0, .int .i64 0, .int .i64 0, .bool false, .int .i64 0] 23 (0, 0)) ∧ wx.heap[B + 1]? = some (boxS s) ∧ Kept [] w wx
theorem RP.mk (w : World) (s : St) (n : Nat) : RP w.heap.size s w (((w.alloc (.cells #[.int .i64 0, .int .i64 0, .int .i64 0, .int .i64 0, .int .i64 0, .bool false, .int .i64 0] 23)).alloc (boxS s)).drewN n) := by
  refine ⟨?_, ?_, ((Kept.refl _ _).alloc _ |>.alloc _).drewN n⟩
  · exact (((Kept.refl [] _).alloc _).drewN n).at (heap_new w _) (by simp)
  · exact iter_at (w.alloc _) _ _ (by simp)
theorem rnumber_at (l : List UInt8) (n : Int) (w : World) (hl : l.length ≤ 16) (h : num l = n) :
    Calls Tryd.prog 30 #[S l] w fun e w' => e = .returned (I n) ∧ w = w' := h ▸ rnumber_any l w hl
set_option maxHeartbeats 4000000 in
set_option maxRecDepth 100000 in
theorem rparse_short (t : List UInt8) (w : World) (hl : t.length ≤ 1073741824) (h : t.length ≠ 59) :
    Calls Tryd.prog 17 #[S t] w fun e w' => e = .returned (VT (parseF t)) ∧ Kept [] w w' := by
  rw [rparse_len h]
  have hn : ((t.length : Int) != 59) = true := by rw [bne_iff_ne]; omega
  clear h
  go_enter Tryd.func17, Tryd.ntmps17
  go_wp2
  go_returns
  exact ⟨rfl, (Kept.refl _ _).alloc _⟩
set_option maxHeartbeats 8000000 in
set_option maxRecDepth 100000 in
theorem rparse_59 (t : List UInt8) (w : World) (h : t.length = 59) :
    Calls Tryd.prog 17 #[S t] w fun e w' => e = .returned (VT (parseF t)) ∧ Kept [] w w' := by
  have hn : ((t.length : Int) != 59) = false := by rw [bne_eq_false_iff_eq]; omega
  have hn1 : (58 : Int) ≤ t.length := by omega
  have hn7 : (7 : Int) ≤ t.length := by omega
  have hn18 : (18 : Int) ≤ t.length := by omega
  have hn20 : (20 : Int) ≤ t.length := by omega
  have hn29 : (29 : Int) ≤ t.length := by omega
  have hn45 : (45 : Int) ≤ t.length := by omega
  have hn46 : (46 : Int) < t.length := by omega
  have hm46 : 46 < t.length := by omega
  have hn2 : (t.length : Int) ≤ 59 := by omega
  have hn3 : 58 ≤ t.length := by omega
  obtain ⟨n0, h0⟩ : ∃ n, num ((t.take 7).drop 6) = n := ⟨_, rfl⟩
  obtain ⟨n1, h1⟩ : ∃ n, num ((t.take 18).drop 8) = n := ⟨_, rfl⟩
  obtain ⟨n2, h2⟩ : ∃ n, num ((t.take 20).drop 19) = n := ⟨_, rfl⟩
  obtain ⟨n3, h3⟩ : ∃ n, num ((t.take 29).drop 21) = n := ⟨_, rfl⟩
  obtain ⟨n4, h4⟩ : ∃ n, num ((t.take 45).drop 30) = n := ⟨_, rfl⟩
  obtain ⟨n6, h6⟩ : ∃ n, num ((t.take 58).drop 48) = n := ⟨_, rfl⟩
  have hr : readS t = ⟨n0, n1, n2, n3, n4, ((byteAt t 46).toNat : Int) == 49, n6⟩ := by rw [← h0, ← h1, ← h2, ← h3, ← h4, ← h6]; rfl
  have C0 := Lib.hid (fun W => rnumber_at _ n0 W (by simp; omega) h0)
  have C1 := Lib.hid (fun W => rnumber_at _ n1 W (by simp; omega) h1)
  have C2 := Lib.hid (fun W => rnumber_at _ n2 W (by simp; omega) h2)
  have C3 := Lib.hid (fun W => rnumber_at _ n3 W (by simp; omega) h3)
  have C4 := Lib.hid (fun W => rnumber_at _ n4 W (by simp; omega) h4)
  have C6 := Lib.hid (fun W => rnumber_at _ n6 W (by simp; omega) h6)
  clear h0 h1 h2 h3 h4 h6 h
  have HR := Lib.hid hr
  clear hr
  go_enter Tryd.func17, Tryd.ntmps17
  go_upto_region 3 with (fail)
  go_cut [4] from 11 (fun v wx => v = Ptr (w.heap.size + 1) ∧ RP (w.heap.size) ⟨n0, n1, n2, n3, n4, ((byteAt t 46).toNat : Int) == 49, n6⟩ w wx)
  case first =>
    clear HR
    go_region_held3 (fun w' => 0 ≤ w'.heap.size)
      (first | assumption | exact Nat.zero_le _)
      (first
        | (go_at_call 30; (with_reducible refine (C0.out _).mono ?_); rintro e w2 ⟨rfl, rfl⟩)
        | (go_at_call 30; (with_reducible refine (C1.out _).mono ?_); rintro e w2 ⟨rfl, rfl⟩)
        | (go_at_call 30; (with_reducible refine (C2.out _).mono ?_); rintro e w2 ⟨rfl, rfl⟩)
        | (go_at_call 30; (with_reducible refine (C3.out _).mono ?_); rintro e w2 ⟨rfl, rfl⟩)
        | (go_at_call 30; (with_reducible refine (C4.out _).mono ?_); rintro e w2 ⟨rfl, rfl⟩)
        | (go_at_call 30; (with_reducible refine (C6.out _).mono ?_); rintro e w2 ⟨rfl, rfl⟩))
    all_goals
      go_wp2
      go_meet
      refine ⟨by simp, ?_⟩
      exact RP.mk _ _ _
  case rest =>
    obtain ⟨rfl, hrp⟩ := hcut
    obtain ⟨W, hW⟩ : ∃ W, W = wc := ⟨_, rfl⟩
    subst hW
    have HP := Lib.hid hrp
    obtain ⟨p0, p1, p2, p3, p4, p5, p6⟩ := cells7 hrp.2.1
    clear hrp C0 C1 C2 C3 C4 C6
    by_cases hM : MayP (readS t)
    · obtain ⟨u, hu⟩ : ∃ u, printL (readS t) = u := ⟨_, rfl⟩
      have hpf : printF ⟨n0, n1, n2, n3, n4, ((byteAt t 46).toNat : Int) == 49, n6⟩ = (u, 0) := by rw [← HR.out]; unfold printF; rw [if_pos hM, hu]
      by_cases hE : u = t
      · subst hE
        have HQ := Lib.hid (And.intro (rparse_yes hM hu) hpf)
        clear hM hu hpf
        go_wp2_with (fail)
        refine (rprint_at ⟨n0, n1, n2, n3, n4, ((byteAt u 46).toNat : Int) == 49, n6⟩ u 0 _ HQ.out.2).mono ?_
        rintro e w1 ⟨rfl, k1⟩
        clear p0 p1 p2 p3 p4 p5 p6
        obtain ⟨s0, s1, s2, s3, s4, s5, s6⟩ := cells7 (k1.at HP.out.2.1 (by simp))
        have hbz := k1.at HP.out.1 (by simp)
        obtain ⟨z0, z1, z2, z3, z4, z5, z6⟩ := cells7 hbz
        obtain ⟨f0, f1, f2, f3, f4, f5, f6⟩ := frozen7 hbz
        clear hbz
        have H1 := Lib.hid (HP.out.2.2.trans' k1)
        clear k1
        go_wp2
        refine bodyPost_ret (v := VT (⟨n0, n1, n2, n3, n4, ((byteAt u 46).toNat : Int) == 49, n6⟩, 0)) (by simp [results, Tryd.results17, go_sem, z0, z1, z2, z3, z4, z5, z6]) rfl ?_
        refine ⟨?_, ?_⟩
        · rw [HQ.out.1, HR.out]
        · exact ((((((H1.out.new1 ((Kept.refl [w.heap.size] w1).setCell (.inl (by simp)) _) (Nat.le_refl _)).new1 ((Kept.refl [w.heap.size] _).setCell (.inl (by simp)) _) (Nat.le_refl _)).new1 ((Kept.refl [w.heap.size] _).setCell (.inl (by simp)) _) (Nat.le_refl _)).new1 ((Kept.refl [w.heap.size] _).setCell (.inl (by simp)) _) (Nat.le_refl _)).new1 ((Kept.refl [w.heap.size] _).setCell (.inl (by simp)) _) (Nat.le_refl _)).new1 ((Kept.refl [w.heap.size] _).setCell (.inl (by simp)) _) (Nat.le_refl _)).new1 ((Kept.refl [w.heap.size] _).setCell (.inl (by simp)) _) (Nat.le_refl _)
      · have hnt := (beq_eq_false_iff_ne (a := u) (b := t)).2 hE
        have HQ := Lib.hid (And.intro (rparse_no (fun h => hE (hu.symm.trans h.2))) hpf)
        clear hM hu hpf hE
        go_wp2_with (fail)
        refine (rprint_at ⟨n0, n1, n2, n3, n4, ((byteAt t 46).toNat : Int) == 49, n6⟩ u 0 _ HQ.out.2).mono ?_
        rintro e w1 ⟨rfl, k1⟩
        clear p0 p1 p2 p3 p4 p5 p6
        have hbz := k1.at HP.out.1 (by simp)
        obtain ⟨z0, z1, z2, z3, z4, z5, z6⟩ := cells7 hbz
        obtain ⟨f0, f1, f2, f3, f4, f5, f6⟩ := frozen7 hbz
        clear hbz
        have H1 := Lib.hid (HP.out.2.2.trans' k1)
        clear k1
        go_wp2
        refine bodyPost_ret (v := VT (zeroS, 250)) (by simp [results, Tryd.results17, go_sem, z0, z1, z2, z3, z4, z5, z6, zeroS]) rfl ?_
        refine ⟨?_, ?_⟩
        · rw [HQ.out.1]
        · exact ((((((H1.out.new1 ((Kept.refl [w.heap.size] w1).setCell (.inl (by simp)) _) (Nat.le_refl _)).new1 ((Kept.refl [w.heap.size] _).setCell (.inl (by simp)) _) (Nat.le_refl _)).new1 ((Kept.refl [w.heap.size] _).setCell (.inl (by simp)) _) (Nat.le_refl _)).new1 ((Kept.refl [w.heap.size] _).setCell (.inl (by simp)) _) (Nat.le_refl _)).new1 ((Kept.refl [w.heap.size] _).setCell (.inl (by simp)) _) (Nat.le_refl _)).new1 ((Kept.refl [w.heap.size] _).setCell (.inl (by simp)) _) (Nat.le_refl _)).new1 ((Kept.refl [w.heap.size] _).setCell (.inl (by simp)) _) (Nat.le_refl _)
    · have hpf : printF ⟨n0, n1, n2, n3, n4, ((byteAt t 46).toNat : Int) == 49, n6⟩ = ([], 250) := by rw [← HR.out]; unfold printF; rw [if_neg hM]
      have HQ := Lib.hid (And.intro (rparse_no (fun h => hM h.1)) hpf)
      clear hM hpf
      go_wp2_with (fail)
      refine (rprint_at ⟨n0, n1, n2, n3, n4, ((byteAt t 46).toNat : Int) == 49, n6⟩ [] 250 _ HQ.out.2).mono ?_
      rintro e w1 ⟨rfl, k1⟩
      clear p0 p1 p2 p3 p4 p5 p6
      have hbz := k1.at HP.out.1 (by simp)
      obtain ⟨z0, z1, z2, z3, z4, z5, z6⟩ := cells7 hbz
      obtain ⟨f0, f1, f2, f3, f4, f5, f6⟩ := frozen7 hbz
      clear hbz
      have H1 := Lib.hid (HP.out.2.2.trans' k1)
      clear k1
      go_wp2
      refine bodyPost_ret (v := VT (zeroS, 250)) (by simp [results, Tryd.results17, go_sem, z0, z1, z2, z3, z4, z5, z6, zeroS]) rfl ?_
      refine ⟨?_, ?_⟩
      · rw [HQ.out.1]
      · exact ((((((H1.out.new1 ((Kept.refl [w.heap.size] w1).setCell (.inl (by simp)) _) (Nat.le_refl _)).new1 ((Kept.refl [w.heap.size] _).setCell (.inl (by simp)) _) (Nat.le_refl _)).new1 ((Kept.refl [w.heap.size] _).setCell (.inl (by simp)) _) (Nat.le_refl _)).new1 ((Kept.refl [w.heap.size] _).setCell (.inl (by simp)) _) (Nat.le_refl _)).new1 ((Kept.refl [w.heap.size] _).setCell (.inl (by simp)) _) (Nat.le_refl _)).new1 ((Kept.refl [w.heap.size] _).setCell (.inl (by simp)) _) (Nat.le_refl _)).new1 ((Kept.refl [w.heap.size] _).setCell (.inl (by simp)) _) (Nat.le_refl _)
theorem rparse_any (t : List UInt8) (w : World) (hl : t.length ≤ 1073741824) :
    Calls Tryd.prog 17 #[S t] w fun e w' => e = .returned (VT (parseF t)) ∧ Kept [] w w' := by
  by_cases h : t.length = 59
  · exact rparse_59 t w h
  · exact rparse_short t w hl h
end Go.Proofs.YtlchdokpkaikhaaDoor
