/- Walks and lemmas on the program of this seat, used by its statements; each theorem bears its own conditions. -/
import Derived.Test.YteplbljjlbdhaaaGreatDoorZ26
import Derived.Test.YteplbljjlbdhaaaGreatDoorZ8
namespace Go.Proofs.YteplbljjlbdhaaaGreatDoor
open Go.RowKit
set_option linter.unusedVariables false
set_option linter.unusedSimpArgs false
set_option linter.unusedSectionVars false
set_option maxHeartbeats 16000000
set_option maxRecDepth 100000
theorem rowD_snoc (l : List En) (x : En) : rowD (l ++ [x]) = rowD l ++ enB x := by unfold rowD; simp
theorem enB_len (x : En) : (enB x).length = x.1.length + 5 := by unfold enB; simp [putN_len]
theorem rowD_len (l : List En) (h : ∀ x ∈ l, x.1.length ≤ 255) : (rowD l).length ≤ 260 * l.length + 1 := by
 induction l with
 | nil => simp [rowD]
 | cons x t ih =>
  have h1 := ih fun y hy => h y (by simp [hy])
  have h2 := h x (by simp)
  have : rowD (x :: t) = 1 :: (enB x ++ (t.map enB).flatten) := rfl
  rw [this]
  unfold rowD at h1
  simp only [List.length_cons, List.length_append, enB_len] at *
  omega
theorem erow_any (w : World) (v : Value) (l : List En) (hv : EnsAt w v l) (hl : l.length ≤ 1000) (hk : ∀ x ∈ l, x.1.length ≤ 255 ∧ x.2 < 4294967296) :
    Calls Tryz.prog 60 #[v] w fun e w' => e = .returned (S (rowD l)) ∧ Kept [] w w' := by
  obtain ⟨p, c, b, rfl, hcap, hp, hc⟩ := hv
  have hlI : (l.length : Int) ≤ 1000 := by omega
  have HC := Lib.hid (And.intro hc (And.intro hk hp))
  have HB := Lib.hid (fun j => rowD_len (l.take j) (fun x hx => (hk x (List.mem_of_mem_take hx)).1))
  clear hc hk hp
  go_enter Tryz.func60, Tryz.ntmps60
  go_wp2_with (fail)
  go_loopw [3, 11] (fun v3 i wr => ∃ (j : Nat) (p' : Option Addr) (c' n' : Nat), j ≤ l.length ∧ i = I j ∧ v3 = .slice p' n' c' ∧ OwnL w.heap.size p' c' n' (rowD (l.take j)) wr ∧ Kept [] w wr) (fun _ i _ => l.length - (intOf i).toNat)
  case atStart => exact ⟨0, _, _, _, by omega, rfl, rfl, ⟨rfl, .inr ⟨w.heap.size, 1, _, rfl, Nat.le_refl _, heap_new w _, Nat.le_refl _, by decide, rfl, rfl⟩⟩, (Kept.refl _ _).alloc _⟩
  case round =>
    obtain ⟨j, p', c', n', hj, rfl, rfl, own, kr⟩ := hrel
    by_cases hlt : j < l.length
    · obtain ⟨hc, hk, hp⟩ := HC.out
      have hpe := hp (by intro h; subst h; simp at hlt)
      subst hpe
      have hltI : (j : Int) < l.length := by omega
      obtain ⟨d0, d1⟩ := hc j hlt
      have e0 := kr.cellOf d0
      have e1 := kr.cellOf d1
      obtain ⟨⟨nm, num⟩, hx⟩ : ∃ x, l[j] = x := ⟨_, rfl⟩
      obtain ⟨hk1, hk2⟩ := hk l[j] (List.getElem_mem hlt)
      rw [hx] at e0 e1 hk1 hk2
      simp only at e0 e1 hk1 hk2
      have htk : rowD (l.take (j + 1)) = rowD (l.take j) ++ enB (nm, num) := by
        rw [List.take_add_one, List.getElem?_eq_getElem hlt, hx]; exact rowD_snoc _ _
      have hbj := HB.out j
      have htl : (l.take j).length = j := by rw [List.length_take]; omega
      rw [htl] at hbj
      obtain ⟨R, hR⟩ : ∃ R, rowD (l.take j) = R := ⟨_, rfl⟩
      rw [hR] at own htk hbj
      have hn' := own.len
      have hRb : n' ≤ 261000 := by omega
      have HPK := Lib.hid (fun W => put_any W num 4 (by omega) (by omega) (by omega))
      have hpl4 := putN_len 4 num
      obtain ⟨kb, hkb⟩ : ∃ kb, putN 4 num = kb := ⟨_, rfl⟩
      obtain ⟨y, hy⟩ : ∃ y : UInt8, y = UInt8.ofNat nm.length := ⟨_, rfl⟩
      have hyn : y.toNat = nm.length := by rw [hy]; simp; omega
      have hch : enB (nm, num) = y :: (nm ++ kb) := by unfold enB; rw [hkb, hy]
      rw [hkb] at HPK hpl4
      have HJ := Lib.hid (And.intro htk (And.intro hch (And.intro own (And.intro kr (And.intro hRb (And.intro hpl4 (And.intro hk1 hyn)))))))
      have hwr : IntKind.u8.wrap (nm.length : Int) = (y.toNat : Int) := by rw [hyn]; unfold IntKind.wrap; simp [IntKind.bits, IntKind.signed]; omega
      have hnw := heap_new wr (Obj.cells #[S nm, I num] 113)
      have hnI : (nm.length : Int) ≤ 255 := by omega
      clear htk hch own kr hRb hpl4 hx hk1 hk2 hc hk hp d0 d1 hR hn' hkb hbj hy hyn htl
      go_wp2_with (fail)
      refine (HPK.out _).mono ?_
      rintro e w3 ⟨rfl, k3⟩
      have hnw3 := k3.at hnw (by simp)
      have f1 := cell_at (((Kept.refl [] w3).alloc (Obj.cells #[.int .u8 y.toNat] 5)).at hnw3 (by simp)) 0
      have f1a := cell_at hnw3 0
      have f1b := cell_at ((Kept.refl [] w3).drew.at hnw3 (by simp)) 0
      have f1d := cell_at (((Kept.refl [] w3).alloc (Obj.cells #[.int .u8 y.toNat] 5)).drew.at hnw3 (by simp)) 0
      simp only [List.getElem?_toArray, List.getElem?_cons_zero, List.getElem?_cons_succ] at f1 f1d f1a f1b
      have K3 := Lib.hid (((Kept.refl [] wr).alloc (Obj.cells #[S nm, I num] 113)).trans' k3)
      have HN3 := Lib.hid hnw3
      clear k3 hnw3 hnw e0 e1
      go_upto_region 6 with (fail)
      have HW0 : Hid (Kept [] wr (w3.alloc (Obj.cells #[.int .u8 y.toNat] 5)).drew ∧ (w3.alloc (Obj.cells #[.int .u8 y.toNat] 5)).drew.heap[w3.heap.size]? = some (Obj.cells #[B y] 5 (0, 0)) ∧ (w3.alloc (Obj.cells #[.int .u8 y.toNat] 5)).drew.heap[wr.heap.size]? = some (Obj.cells #[S nm, I num] 113 (0, 0))) := Lib.hid ⟨(K3.out.alloc _).drew, heap_new w3 _, ((Kept.refl [] w3).alloc _).drew.at HN3.out (by simp)⟩
      have hsep : Hid (∀ (p : Option Addr) (c n : Nat) (L : List UInt8) (W : World), OwnL w.heap.size p c n L W → W.heap[wr.heap.size]? = some (Obj.cells #[S nm, I num] 113 (0, 0)) → wr.heap.size ∉ (Value.slice p n c).ownBlock.toList) := Lib.hid (by
        intro p c n L W ow hb hm
        rcases ow.2 with ⟨e, _⟩ | ⟨g, cap, cur, e, _, hg, _⟩
        · rw [e] at hm; simp [Value.ownBlock] at hm
        · rw [e] at hm
          have : wr.heap.size = g := by simpa [Value.ownBlock] using hm
          rw [← this, hb] at hg
          cases hg)
      go_region_law (first
        | (refine step_appB _ rfl (.tmp 21) (.tmp 26) rfl w.heap.size p' c' n' R w3.heap.size y (by simp [Act.eval, Act.put]) (by exact own_kept HJ.out.2.2.1 HW0.out.1 (by simp)) (by simp [Act.eval, Act.put]) (by exact HW0.out.2.1) (by have := HJ.out.2.2.2.2.1; omega) (by exact (HJ.out.2.2.2.1.trans' HW0.out.1).size) ?_
           intro p4 c4 w4 own4 k4
           have H4 : Hid (OwnL w.heap.size p4 c4 (n' + 1) (R ++ [y]) w4 ∧ Kept [] w w4 ∧ w4.heap[wr.heap.size]? = some (Obj.cells #[S nm, I num] 113 (0, 0))) := Lib.hid ⟨own4, (HJ.out.2.2.2.1.trans' HW0.out.1).new k4 (by intro x hx; exact (own_lt HJ.out.2.2.1 x (by simpa using hx)).1), k4.at HW0.out.2.2 (by intro hm; have := (own_lt HJ.out.2.2.1 _ (by simpa using hm)).2; omega)⟩
           have f4 := cell_at H4.out.2.2 0
           simp only [List.getElem?_toArray, List.getElem?_cons_zero, List.getElem?_cons_succ] at f4
           clear own4 k4)
        | (refine step_appS _ rfl (.tmp 27) (.tmp 29) rfl w.heap.size p4 c4 (n' + 1) (R ++ [y]) nm (by simp [Act.eval, Act.put]) (by exact H4.out.1) (by simp [Act.eval, Act.put]) (by have := HJ.out; omega) (by exact H4.out.2.1.size) ?_
           intro p5 c5 w5 own5 k5
           have H5 : Hid (OwnL w.heap.size p5 c5 (n' + 1 + nm.length) (R ++ [y] ++ nm) w5 ∧ Kept [] w w5 ∧ w5.heap[wr.heap.size]? = some (Obj.cells #[S nm, I num] 113 (0, 0))) := Lib.hid ⟨own5, (H4.out.2.1).new k5 (by intro x hx; exact (own_lt H4.out.1 x (by simpa using hx)).1), k5.at H4.out.2.2 (hsep.out _ _ _ _ _ H4.out.1 H4.out.2.2)⟩
           have f5 := cell_at H5.out.2.2 0
           simp only [List.getElem?_toArray, List.getElem?_cons_zero, List.getElem?_cons_succ] at f5
           clear own5 k5)
        | (refine step_appS _ rfl (.tmp 30) (.tmp 31) rfl w.heap.size p5 c5 (n' + 1 + nm.length) (R ++ [y] ++ nm) kb (by simp [Act.eval, Act.put]) (by exact H5.out.1) (by simp [Act.eval, Act.put]) (by have := HJ.out; omega) (by exact H5.out.2.1.size) ?_
           intro p6 c6 w6 own6 k6
           have H6 : Hid (OwnL w.heap.size p6 c6 (n' + 1 + nm.length + kb.length) (R ++ [y] ++ nm ++ kb) w6 ∧ Kept [] w w6) := Lib.hid ⟨own6, (H5.out.2.1).new k6 (by intro x hx; exact (own_lt H5.out.1 x (by simpa using hx)).1)⟩
           clear own6 k6))
      all_goals
        go_wp2
        go_roundw
        case rel =>
          obtain ⟨htk, hch, own, kr, hRb, hpl4, hvl, _⟩ := HJ.out
          refine ⟨j + 1, p6, c6, n' + 1 + nm.length + kb.length, by omega, by go_num, rfl, ?_, H6.out.2⟩
          have e : R ++ (y :: (nm ++ kb)) = R ++ [y] ++ nm ++ kb := by simp
          rw [htk, hch, e]
          exact H6.out.1
        case measure => simp [intOf]; omega
    · have hje : j = l.length := by omega
      subst hje
      rw [List.take_length] at own
      have hcv := conv_own own
      have HK := Lib.hid kr
      clear own kr HC HB
      go_wp2_with (fail)
      go_ret
      exact ⟨rfl, HK.out⟩
theorem frow_any (w : World) (n : Nat) (hn : n < 65536) : Calls Tryz.prog 48 #[.agg #[I n]] w fun e w' => e = .returned (S (rowF n)) ∧ Kept [] w w' := by
 have HP := Lib.hid (fun W => put_any W n 2 (by omega) (by omega) (by omega))
 go_enter Tryz.func48, Tryz.ntmps48
 go_wp2_with (fail)
 refine (HP.out _).mono ?_
 rintro e w1 ⟨rfl, k1⟩
 have K1 := Lib.hid (((Kept.refl [] w).alloc _).trans' k1)
 clear k1
 go_wp2_with (fail)
 go_ret
 exact ⟨rfl, K1.out⟩
theorem getN_num (n : Nat) (h : n < 4294967296) : getN (putN 4 n) = n := getN_put 4 n (by omega)
theorem enB_cut (nm kb R : List UInt8) (y : UInt8) (h : kb.length = 4) : ((y :: (nm ++ kb) ++ R).take (nm.length + 1)).drop 1 = nm ∧ ((y :: (nm ++ kb) ++ R).take (nm.length + 5)).drop (nm.length + 1) = kb ∧ (y :: (nm ++ kb) ++ R).drop (nm.length + 5) = R := by
 obtain ⟨a, b, c, d, rfl⟩ : ∃ a b c d, kb = [a, b, c, d] := by
  match kb, h with
  | [a, b, c, d], _ => exact ⟨a, b, c, d, rfl⟩
 refine ⟨?_, ?_, ?_⟩
 ·simp
 ·rw [show nm.length + 5 = (nm.length + 4) + 1 by omega]
  simp only [List.cons_append, List.take_succ_cons, List.drop_succ_cons, List.append_assoc]
  rw [show nm ++ (a :: b :: c :: d :: ([] ++ R)) = (nm ++ [a, b, c, d]) ++ R by simp, List.take_left' (by simp)]
  simp
 ·rw [show nm.length + 5 = (nm.length + 4) + 1 by omega]
  simp only [List.cons_append, List.drop_succ_cons, List.append_assoc]
  simp
theorem parse_file (w : World) (n : Nat) (hn : n < 65536) : Calls Tryz.prog 122 #[S (rowF n)] w fun e w' => e = .returned (.iface 78 (.agg #[I n])) ∧ Kept [] w w' := by
 have hp := putN_len 2 n
 have hg : getN (putN 2 n) = n := getN_put 2 n (by omega)
 obtain ⟨kb, hkb⟩ : ∃ kb, putN 2 n = kb := ⟨_, rfl⟩
 obtain ⟨X, hX⟩ : ∃ X, rowF n = X := ⟨_, rfl⟩
 have hX2 : X = 0 :: kb := by rw [← hX, ← hkb]; rfl
 rw [hkb] at hp hg
 have HG : Hid (∀ W, Calls Tryz.prog 79 #[S kb] W fun e w' => e = .returned (.tuple #[I n, I 0]) ∧ w' = W) := Lib.hid (fun W => by
  have := get_any W kb (by intro h; rw [h] at hp; cases hp) (by omega)
  rw [hg] at this; exact this)
 have hXl : X.length = 3 := by rw [hX2]; simp [hp]
 have hXe : X.isEmpty = false := by rw [hX2]; rfl
 have hXn : (X == []) = false := by rw [hX2]; rfl
 have hb0 : byteAt X 0 = 0 := by rw [hX2]; rfl
 have hq0 : ((byteAt X 0).toNat : Int) = 0 := by rw [hb0]; rfl
 have hq0b : (((byteAt X 0).toNat : Int) != 1) = true := by rw [hb0]; rfl
 have hXI : (X.length : Int) = 3 := by omega
 have hd : X.drop 1 = kb := by rw [hX2]; rfl
 have hd2 : (X.take 3).drop 1 = kb := by rw [List.take_of_length_le (by omega)]; exact hd
 have hmin : min (1 : Int) 3 = 1 := rfl
 rw [hX]
 clear hX hX2 hb0 hg hp hkb
 go_enter Tryz.func122, Tryz.ntmps122
 go_wp2_with (fail)
 refine (HG.out _).mono ?_
 rintro e w1 ⟨rfl, rfl⟩
 go_wp2_with (fail)
 go_ret
 exact ⟨rfl, Kept.refl _ _⟩
theorem parse_dir (w : World) (l : List En) (hl : l.length ≤ 1000) (hk : ∀ x ∈ l, x.1.length ≤ 255 ∧ x.2 < 4294967296) :
    Calls Tryz.prog 122 #[S (rowD l)] w fun e w' => (∃ v, e = .returned (.iface 87 v) ∧ EnOwn w' w.heap.size v l) ∧ Kept [] w w' := by
  have hb := rowD_len l (fun x hx => (hk x hx).1)
  have HK := Lib.hid (And.intro hk hl)
  obtain ⟨i0, hi, hz0, hz1, hz2⟩ := info_parts ent_info
  have HI := Lib.hid (And.intro hi (And.intro hz0 (And.intro hz1 hz2)))
  obtain ⟨T, hT⟩ : ∃ T, rowD l = T := ⟨_, rfl⟩
  have hTe : T.isEmpty = false := by rw [← hT]; rfl
  have hTn : (T == []) = false := by rw [← hT]; rfl
  have hb0 : byteAt T 0 = 1 := by rw [← hT]; rfl
  have hq0 : ((byteAt T 0).toNat : Int) = 1 := by rw [hb0]; rfl
  have hq0b : (((byteAt T 0).toNat : Int) != 1) = false := by rw [hb0]; rfl
  have hTl : (1 : Int) ≤ T.length := by rw [← hT]; simp [rowD]; omega
  have hTl2 : (T.length : Int) ≤ 261000 := by rw [← hT]; omega
  have HT : Hid (T.tail = (l.map enB).flatten) := Lib.hid (by rw [← hT]; rfl)
  have HL := Lib.hid (And.intro hb hT)
  rw [hT]
  clear hk hb hT hi hz0 hz1 hz2 hb0 hl
  go_enter Tryz.func122, Tryz.ntmps122
  go_wp2_with (fail)
  go_loopw [5, 6] (fun v5 v6 wr => ∃ (done todo : List En) (X : List UInt8) (p : Option Addr) (c : Nat), l = done ++ todo ∧ (todo.map enB).flatten = X ∧ v6 = S X ∧ v5 = .slice p done.length c ∧ EnOwn wr w.heap.size (.slice p done.length c) done ∧ Kept [] w wr) (fun _ v6 _ => lenV v6)
  case atStart => exact ⟨[], l, _, none, 0, rfl, HT.out.symm, rfl, rfl, ⟨rfl, .inl ⟨rfl, rfl⟩⟩, Kept.refl _ _⟩
  case round =>
    obtain ⟨done, todo, X, p, c, hdt, hX0, rfl, rfl, own, kr⟩ := hrel
    have HR := Lib.hid (And.intro hdt (And.intro own kr))
    have hdl : done.length ≤ 1000 := by have := HK.out.2; rw [hdt, List.length_append] at this; omega
    clear hdt own kr
    cases todo with
    | nil =>
      have e0 : [] = X := hX0
      subst e0
      have HD : Hid (done = l) := Lib.hid (by have := HR.out.1; rw [List.append_nil] at this; exact this.symm)
      clear hX0
      go_wp2_with (fail)
      go_ret
      refine ⟨⟨_, rfl, ?_⟩, HR.out.2.2⟩
      have := HR.out.2.1
      rw [HD.out] at this ⊢
      exact this
    | cons x todo =>
      obtain ⟨nm, num⟩ := x
      obtain ⟨h1, h2⟩ := HK.out.1 (nm, num) (by rw [HR.out.1]; simp)
      simp only at h1 h2
      have hkl := putN_len 4 num
      have hgk : getN (putN 4 num) = num := getN_num _ h2
      obtain ⟨kb, hkb⟩ : ∃ kb, putN 4 num = kb := ⟨_, rfl⟩
      rw [hkb] at hkl hgk
      obtain ⟨R, hR⟩ : ∃ R, (todo.map enB).flatten = R := ⟨_, rfl⟩
      obtain ⟨hi, hz0, hz1, hz2⟩ := HI.out
      have HGK : Hid (∀ W, Calls Tryz.prog 79 #[S kb] W fun e w' => e = .returned (.tuple #[I num, I 0]) ∧ w' = W) := Lib.hid (fun W => by
        have := get_any W kb (by intro h; rw [h] at hkl; cases hkl) (by omega)
        rw [hgk] at this; exact this)
      obtain ⟨y, hy⟩ : ∃ y : UInt8, y = UInt8.ofNat nm.length := ⟨_, rfl⟩
      have hyn : y.toNat = nm.length := by rw [hy]; simp; omega
      have hX : y :: (nm ++ kb) ++ R = X := by rw [← hX0, ← hR, ← hkb, hy]; rfl
      obtain ⟨c1, c2, c3⟩ := enB_cut nm kb R y hkl
      rw [hX] at c1 c2 c3
      have hXl : X.length = nm.length + 5 + R.length := by rw [← hX]; simp [hkl]; omega
      have hb0 : byteAt X 0 = y := by rw [← hX]; rfl
      have hq1 : ((byteAt X 0).toNat : Int) = (nm.length : Int) := by rw [hb0, hyn]
      have hXm : X.length ≤ 261000 := by
        have h1 := HT.out
        have h2 : (l.map enB).flatten = (done.map enB).flatten ++ X := by rw [HR.out.1, ← hX0]; simp
        rw [h2] at h1
        have h3 := congrArg List.length h1
        rw [List.length_tail, List.length_append] at h3
        omega
      have hXI : (X.length : Int) ≤ 261000 := by omega
      have hXI2 : (0 : Int) < X.length := by omega
      have hXI3 : (1 : Int) + (nm.length : Int) + 4 ≤ X.length := by omega
      have hlt : decide ((X.length : Int) < (1 : Int) + (nm.length : Int) + 4) = false := by simp; omega
      have hnI : (nm.length : Int) ≤ 255 := by omega
      have ht1 : ((1 : Int) + (nm.length : Int)).toNat = nm.length + 1 := by omega
      have ht2 : ((1 : Int) + (nm.length : Int) + 4).toNat = nm.length + 5 := by omega
      have hs1 : (1 : Int) ≤ (1 : Int) + (nm.length : Int) := by omega
      have hs0 : (0 : Int) ≤ (1 : Int) + (nm.length : Int) := by omega
      have hs2 : (1 : Int) + (nm.length : Int) ≤ (1 : Int) + (nm.length : Int) + 4 := by omega
      have hs3 : (1 : Int) + (nm.length : Int) ≤ X.length := by omega
      have hs4 : (0 : Int) ≤ (1 : Int) + (nm.length : Int) + 4 := by omega
      have hw1 : IntKind.i64.wrap ((1 : Int) + (nm.length : Int) + 4) = (1 : Int) + (nm.length : Int) + 4 := by rw [IntKind.wrap_i64]; omega
      have HF := Lib.hid (And.intro hR (And.intro hXl hkb))
      clear hR hXl hkb hb0 hX0 hX hXm hy hyn h1 h2 hgk hkl
      go_upto_region 11 with (fail)
      refine (HGK.out _).mono ?_
      rintro e w5 ⟨rfl, rfl⟩
      go_upto_region 11 with (fail)
      go_region_law (first
        | (refine step_append_lies _ rfl (.tmp 54) (.tmp 60) 87 rfl w.heap.size 113 i0 (.agg #[S [], I 0]) 2 24 Tryz.underlying87 hi hz0 hz1 hz2 rfl (by decide) (.slice p done.length c) done.length (enCells done) (by simp [Act.eval, Act.put]) (by first | exact own_kept HR.out.2.1 ((Kept.refl [] _).alloc (Obj.cells #[S nm, I num] 113)).drew (by simp)) ⟨w5.heap.size, 0, none⟩ 1 1 [S nm, I num] (by simp [Act.eval, Act.put]) rfl (World.news_of_block (heap_new w5 (Obj.cells #[S nm, I num] 113))) (by intro u hu; simp at hu; rcases hu with rfl | rfl <;> rfl) (by omega) (by unfold maxLen; omega) (by omega) (by exact Nat.le_trans HR.out.2.2.size (((Kept.refl [] w5).alloc (Obj.cells #[S nm, I num] 113)).size)) _ rfl ?_
           intro g cap wa own1 gr1 hat hlt
           have HA := Lib.hid (And.intro own1 (kept_grown gr1))
           clear own1 gr1 hat hlt))
      all_goals
        simp only [List.getElem_toArray, List.getElem_cons_succ, List.getElem_cons_zero]
        go_frame
        go_wp2
        go_roundw
        case rel =>
          obtain ⟨own1, kg⟩ := HA.out
          refine ⟨done ++ [(nm, num)], todo, R, some ⟨g, 0, none⟩, cap, by rw [HR.out.1]; simp, HF.out.1, rfl, by simp, ?_, ?_⟩
          · show World.ownsRow _ _ _ _ _ _ _
            rw [List.length_append, enCells_append]
            exact own1
          · refine HR.out.2.2.new (((Kept.refl [] w5).alloc (Obj.cells #[S nm, I num] 113)).drew.mono (by simp) |>.trans' kg) ?_
            intro x hx
            exact (own_lt HR.out.2.1 x (by simpa using hx)).1
        case measure =>
          show R.length < X.length
          have := HF.out.2.1
          omega
end Go.Proofs.YteplbljjlbdhaaaGreatDoor
