/- Walks and lemmas on the program of this seat, used by its statements; each theorem bears its own conditions. -/
import Derived.Test.YteplbljjlbdhaaaGreatDoorZ10
namespace Go.Proofs.YteplbljjlbdhaaaGreatDoor
open Go.RowKit
set_option linter.unusedVariables false
set_option linter.unusedSimpArgs false
set_option linter.unusedSectionVars false
set_option maxHeartbeats 16000000
set_option maxRecDepth 100000
theorem keep_any (w : World) (sb pb lb mb kb : Nat) (x : Int) (M : OM) (C : List (Int × Nat)) (h : CoreAt w sb pb lb mb kb x M C) (b1 b3 b6 : Nat) (seg i : Nat) (hs : seg ≤ 1000000000000) (hi : i ≤ 1000000)
  (h1 : w.cell? ⟨b1, 0, none⟩ = some (Ptr sb)) (h3 : w.cell? ⟨b3, 0, none⟩ = some (I seg)) (h6 : w.cell? ⟨b6, 0, none⟩ = some (I i)) (c : Ch) (hk : 1 ≤ c.key ∧ c.key ≤ 2147483647) :
  Calls Tryz.prog 148 #[.agg #[I c.key, S c.val, .bool c.drop], Ptr b1, Ptr b3, Ptr b6] w fun e w' => e = .returned (.bool (!keepC M seg i c)) ∧ Kept [] w w' := by
 obtain ⟨ky, vl, dr⟩ := c
 obtain ⟨hk1, hk2⟩ := hk
 simp only at hk1 hk2 ⊢
 have hkx := (Kept.refl [] w).alloc (Obj.cells #[I ky, S vl, .bool dr] 146)
 have hnw := heap_new w (Obj.cells #[I ky, S vl, .bool dr] 146)
 obtain ⟨W1, hW1⟩ : ∃ W1, w.alloc (Obj.cells #[I ky, S vl, .bool dr] 146) = W1 := ⟨_, rfl⟩
 obtain ⟨q, hq⟩ : ∃ q, w.heap.size = q := ⟨_, rfl⟩
 have HK := Lib.hid (fun W (k : Kept [] W1 W) => And.intro (h.same (hkx.trans' (by rw [hW1]; exact k))).cells (And.intro ((hkx.trans' (by rw [hW1]; exact k)).cellOf h1) (And.intro ((hkx.trans' (by rw [hW1]; exact k)).cellOf h3) ((hkx.trans' (by rw [hW1]; exact k)).cellOf h6))))
 rw [hW1] at hkx hnw
 rw [hq] at hnw
 have HC := Lib.hid (h.same hkx)
 have HX := Lib.hid (And.intro hnw hkx)
 clear h hkx h1 h3 h6
 have g0 := cell_at hnw 0
 have g2 := cell_at hnw 2
 simp only [List.getElem?_toArray, List.getElem?_cons_zero, List.getElem?_cons_succ] at g0 g2
 obtain ⟨⟨s0, s1, s2, s3, s4, s5⟩, x1, x3, x6⟩ := HK.out W1 (Kept.refl _ _)
 obtain ⟨q2, hq2⟩ : ∃ q2, W1.heap.size = q2 := ⟨_, rfl⟩
 obtain ⟨W2, hW2⟩ : ∃ W2, (W1.alloc (Obj.cells #[S [], I 0, I 0] 176)).drew = W2 := ⟨_, rfl⟩
 have hW3 : W1.drew.alloc (Obj.cells #[S [], I 0, I 0] 176) = W2 := hW2
 have k12 : Kept [] W1 W2 := by rw [← hW2]; exact ((Kept.refl [] W1).alloc _).drew
 have hb2 : W2.heap[q2]? = some (.cells #[S [], I 0, I 0] 176 (0, 0)) := by rw [← hW2, ← hq2]; exact heap_new W1 _
 have k1d := (Kept.refl [] W1).drew
 obtain ⟨⟨t0, t1, t2, t3, t4, t5⟩, y1, y3, y6⟩ := HK.out W2 k12
 obtain ⟨⟨td0, td1, td2, td3, td4, td5⟩, yd1, yd3, yd6⟩ := HK.out W1.drew k1d
 have u0 := k12.cellOf g0
 have u0d := k1d.cellOf g0
 obtain ⟨ov, os, op, is, hov, hlook, hlookd⟩ : ∃ (ov : List UInt8) (os op : Nat) (is : Bool), ((findA M ky = none ∧ is = false) ∨ (findA M ky = some ⟨ov, os, op⟩ ∧ is = true)) ∧ (Instr.lookup 137 (.map (some mb)) (I ky) true).run Tryz.prog W2 = .ok (.tuple #[.agg #[S ov, I os, I op], .bool is]) W2 ∧ (Instr.lookup 137 (.map (some mb)) (I ky) true).run Tryz.prog W1.drew = .ok (.tuple #[.agg #[S ov, I os, I op], .bool is]) W1.drew := by
  cases hfo : findA M ky with
  | none => exact ⟨[], 0, 0, false, .inl ⟨rfl, rfl⟩, (HC.out.same k12).find_none (i64_key hk1 hk2) hfo, (HC.out.same k1d).find_none (i64_key hk1 hk2) hfo⟩
  | some ob => exact ⟨ob.val, ob.seg, ob.pos, true, .inr ⟨rfl, rfl⟩, (HC.out.same k12).find_some (i64_key hk1 hk2) hfo, (HC.out.same k1d).find_some (i64_key hk1 hk2) hfo⟩
 have HOV := Lib.hid hov
 have HB2 := Lib.hid (And.intro hb2 k12)
 have HQ2 := Lib.hid hq2
 have hf2 := free_at hb2
 have z0 := cell_at hb2 0
 have z1 := cell_at hb2 1
 have z2 := cell_at hb2 2
 simp only [List.getElem?_toArray, List.getElem?_cons_zero, List.getElem?_cons_succ] at z0 z1 z2
 have hsI : (seg : Int) ≤ 1000000000000 := by omega
 have hiI : (i : Int) ≤ 1000000 := by omega
 clear hov k12 k1d hb2 hnw
 go_enter Tryz.func148, Tryz.ntmps148
 go_upto_region 1 with (fail)
 go_cut [6, 7] from 8 to 17 (fun v6 v7 wx => v6 = Ptr q2 ∧ v7 = .bool is ∧ wx.heap[q2]? = some (.cells #[S ov, I os, I op] 176 (0, 0)) ∧ Kept [] W1 wx)
 case first =>
  go_region
  all_goals
   go_wp2
   go_meet
   exact ⟨rfl, rfl, store3 HB2.out.1 _ _ _, ((HB2.out.2.setCell (.inr (by have := HQ2.out; show W1.heap.size ≤ q2; omega)) _).setCell (.inr (by have := HQ2.out; show W1.heap.size ≤ q2; omega)) _).setCell (.inr (by have := HQ2.out; show W1.heap.size ≤ q2; omega)) _⟩
 case rest =>
 obtain ⟨rfl, rfl, hbw, kw⟩ := hcut
 have o1 := cell_at hbw 1
 have o2 := cell_at hbw 2
 simp only [List.getElem?_toArray, List.getElem?_cons_zero, List.getElem?_cons_succ] at o1 o2
 have r2 := kw.cellOf g2
 obtain ⟨_, r3, r5, r6⟩ := HK.out wc kw
 have KW := Lib.hid (HX.out.2.trans' kw)
 clear hbw kw g0 g2 s0 s1 s2 s3 s4 s5 x1 x3 x6 t0 t1 t2 t3 t4 t5 y1 y3 y6 td0 td1 td2 td3 td4 td5 yd1 yd3 yd6 u0 u0d hlook hlookd z0 z1 z2 hf2 hW2 hW3 hq2 hW1 hq
 cases dr with
 | true =>
  go_wp2_with (fail)
  go_ret
  exact ⟨by simp [keepC], KW.out⟩
 | false =>
  cases is with
  | false =>
   have hfo : Hid (findA M ky = none) := Lib.hid (by
    rcases HOV.out with ⟨h, _⟩ | ⟨_, h⟩
    ·exact h
    ·cases h)
   go_wp2_with (fail)
   go_ret
   exact ⟨by simp [keepC, hfo.out], KW.out⟩
  | true =>
   have hfo : Hid (findA M ky = some ⟨ov, os, op⟩) := Lib.hid (by
    rcases HOV.out with ⟨_, h⟩ | ⟨h, _⟩
    ·cases h
    ·exact h)
   by_cases e1 : os = seg
   ·by_cases e2 : op = i
    ·have HE := Lib.hid (And.intro e1 e2)
     have b1e : ((os : Int) == seg) = true := by simp [e1]
     have b2e : ((op : Int) == i) = true := by simp [e2]
     have b1i : (os : Int) = seg := by omega
     have b2i : (op : Int) = i := by omega
     clear e1 e2
     go_wp2_with (fail)
     go_ret
     exact ⟨by simp [keepC, hfo.out, HE.out.1, HE.out.2], KW.out⟩
    ·have HE := Lib.hid (And.intro e1 e2)
     have b1e : ((os : Int) == seg) = true := by simp [e1]
     have b2e : ((op : Int) == i) = false := by simp; omega
     have b1i : (os : Int) = seg := by omega
     have b2i : ¬ (op : Int) = i := by omega
     clear e1 e2
     go_wp2_with (fail)
     all_goals
      go_ret
      exact ⟨by have := HE.out.2; simp [keepC, hfo.out, HE.out.1, this], KW.out⟩
   ·have HE := Lib.hid e1
    have b1e : ((os : Int) == seg) = false := by simp; omega
    have b1i : ¬ (os : Int) = seg := by omega
    clear e1
    go_wp2_with (fail)
    all_goals
     go_ret
     exact ⟨by have := HE.out; simp [keepC, hfo.out, this], KW.out⟩
theorem ixc_any (w : World) (l : List Ch) (p : Option Addr) (c g o : Nat) (hp : l ≠ [] → p = some ⟨g, o, none⟩) (hl : l.length ≤ 1000) (a1 a2 a3 : Value) (pr : Ch → Bool)
  (hc : ∀ (i : Nat) (hi : i < l.length), w.cell? ⟨g, o + i * 3, none⟩ = some (I l[i].key) ∧ w.cell? ⟨g, o + i * 3 + 1, none⟩ = some (S l[i].val) ∧ w.cell? ⟨g, o + i * 3 + 2, none⟩ = some (.bool l[i].drop))
  (HP : ∀ W, Kept [] w W → ∀ x ∈ l, Calls Tryz.prog 148 #[.agg #[I x.key, S x.val, .bool x.drop], a1, a2, a3] W fun e w' => e = .returned (.bool (pr x)) ∧ Kept [] W w') :
  Calls Tryz.prog 181 #[.slice p l.length c, .func (.func 148) #[] #[a1, a2, a3]] w fun e w' => (∃ k : Int, e = .returned (I k) ∧ ((k = -1 ∧ ∀ x ∈ l, pr x = false) ∨ (∃ j : Nat, k = j ∧ ∃ h : j < l.length, pr l[j] = true ∧ ∀ (i : Nat) (hi : i < j), pr l[i] = false))) ∧ Kept [] w w' := by
 have hlI : (l.length : Int) ≤ 1000 := by omega
 have HC := Lib.hid (And.intro hc (And.intro hp HP))
 clear hc hp HP
 go_enter Tryz.func181, Tryz.ntmps181
 go_wp2_with (fail)
 go_loopw [5, 8] (fun _ vi wr => ∃ j : Nat, j ≤ l.length ∧ vi = I j ∧ (∀ (i : Nat) (hi : i < j) (h : i < l.length), pr l[i] = false) ∧ Kept [] w wr) (fun _ vi _ => l.length - (intOf vi).toNat)
 case atStart => exact ⟨0, by omega, rfl, fun i hi => by omega, Kept.refl _ _⟩
 case round =>
  obtain ⟨j, hj, rfl, hno, kr⟩ := hrel
  by_cases hjl : j < l.length
  ·obtain ⟨hc, hp, HP⟩ := HC.out
   have hpe := hp (by intro h; subst h; simp at hjl)
   subst hpe
   have hjI : (j : Int) < l.length := by omega
   have hjI0 : (0 : Int) ≤ j := by omega
   obtain ⟨d0, d1, d2⟩ := hc j hjl
   have e0 := kr.cellOf d0
   have e1 := kr.cellOf d1
   have e2 := kr.cellOf d2
   have HPJ := Lib.hid (HP wr kr l[j] (List.getElem_mem hjl))
   have HR := Lib.hid (And.intro hno kr)
   clear hc hp HP d0 d1 d2 hno kr
   go_wp2_with (fail)
   refine HPJ.out.mono ?_
   rintro e w2 ⟨rfl, k2⟩
   have K2 := Lib.hid (HR.out.2.trans' k2)
   clear k2 e0 e1 e2
   cases hpr : pr l[j] with
   | true =>
    have HH := Lib.hid hpr
    clear hpr
    go_wp2_with (fail)
    go_ret
    exact ⟨⟨j, rfl, .inr ⟨j, rfl, hjl, HH.out, fun i hi => HR.out.1 i hi (by omega)⟩⟩, K2.out⟩
   | false =>
    have HH := Lib.hid hpr
    clear hpr
    go_wp2_with (fail)
    go_roundw
    case rel =>
     refine ⟨j + 1, by omega, by go_num, fun i hi h => ?_, K2.out⟩
     by_cases he : i = j
     ·subst he; exact HH.out
     ·exact HR.out.1 i (by omega) h
    case measure => simp [intOf]; omega
  ·have hje : j = l.length := by omega
   subst hje
   have HR := Lib.hid (And.intro hno kr)
   clear hno kr HC
   go_wp2_with (fail)
   go_ret
   refine ⟨⟨-1, rfl, .inl ⟨rfl, fun x hx => ?_⟩⟩, HR.out.2⟩
   obtain ⟨i, hi, rfl⟩ := List.getElem_of_mem hx
   exact HR.out.1 i hi hi
theorem zero_ch (n : Nat) : ((Builtin.zeroCells (Value.agg #[I 0, S [], .bool false]).cells n).toList).length = n * 3 ∧ ∀ u ∈ (Builtin.zeroCells (Value.agg #[I 0, S [], .bool false]).cells n).toList, u.oneCell' = true := by
 have hcl : (Value.agg #[I 0, S [], .bool false]).cells = #[I 0, S [], .bool false] := rfl
 rw [hcl]
 constructor
 ·rw [Array.length_toList, size_zeroCells]; rfl
 ·intro u hu
  simp only [Builtin.zeroCells, Array.toList_map, List.mem_map] at hu
  obtain ⟨i, _, rfl⟩ := hu
  have : i % (#[I 0, S [], Value.bool false] : Array Value).size < 3 := Nat.mod_lt _ (by decide)
  rcases (by omega : i % (#[I 0, S [], Value.bool false] : Array Value).size = 0 ∨ i % (#[I 0, S [], Value.bool false] : Array Value).size = 1 ∨ i % (#[I 0, S [], Value.bool false] : Array Value).size = 2) with h | h | h <;> rw [h] <;> rfl
theorem clear_ch (w : World) (ty : TypeId) (b o n c : Nat) (hn : 0 < n) (hc : ∀ j, j < n * 3 → (w.cell? ⟨b, o + j, none⟩).isSome = true) (hf : ∀ j, j < n * 3 → w.frozen? ⟨b, o + j, none⟩ = false) :
  (Builtin.clear_ #[147] ty #[.slice (some ⟨b, o, none⟩) n c]).run Tryz.prog w = .ok (.tuple #[]) (w.setCells b o (Builtin.zeroCells (Value.agg #[I 0, S [], .bool false]).cells n).toList) := by
 have hv : ∀ w, (zeroValue 146).run Tryz.prog w = .ok (.agg #[I 0, S [], .bool false]) w := fun w => by kernel_rfl
 obtain ⟨z1, z2⟩ := zero_ch n
 obtain ⟨Z, hZ⟩ : ∃ Z, (Builtin.zeroCells (Value.agg #[I 0, S [], .bool false]).cells n).toList = Z := ⟨_, rfl⟩
 rw [hZ] at z1 z2 ⊢
 have hst := run_storeCells_cells (P := Tryz.prog) b o Z 0 w (by rw [z1]; simpa using hc) (by rw [z1]; simpa using hf) z2
 simp only [Nat.add_zero] at hst
 obtain ⟨m, rfl⟩ : ∃ m, n = m + 1 := ⟨n - 1, by omega⟩
 simp [Builtin.clear_, run_underlying Tryz.underlying147, hv, hZ, hst]
theorem chsCells_append (a b : List Ch) : chsCells (a ++ b) = chsCells a ++ chsCells b := by simp [chsCells]
theorem delf_any (w : World) (l : List Ch) (base : Nat) (p : Option Addr) (c : Nat) (own : OwnC base p c l w) (hl : l.length ≤ 1000) (a1 a2 a3 : Value) (pr : Ch → Bool)
  (HP : ∀ W, Kept (Value.slice p l.length c).ownBlock.toList w W → ∀ x ∈ l, Calls Tryz.prog 148 #[.agg #[I x.key, S x.val, .bool x.drop], a1, a2, a3] W fun e w' => e = .returned (.bool (pr x)) ∧ Kept [] W w') :
  Calls Tryz.prog 147 #[.slice p l.length c, .func (.func 148) #[] #[a1, a2, a3]] w fun e w' => e = .returned (.slice p (l.filter fun x => !pr x).length c) ∧ OwnC base p c (l.filter fun x => !pr x) w' ∧ Kept (Value.slice p l.length c).ownBlock.toList w w' := by
 have hat := own.at
 obtain ⟨p', c', b0, o0, he, hp0, hc0⟩ := hat
 obtain ⟨rfl, rfl⟩ : p = p' ∧ c = c' := by injection he with h1 h2 h3; exact ⟨h1, h3⟩
 have HIX := Lib.hid (ixc_any w l p c b0 o0 hp0 hl a1 a2 a3 pr hc0 (fun W k x hx => HP W (k.mono (by simp)) x hx))
 have HO := Lib.hid (And.intro own HP)
 have hlI : (l.length : Int) ≤ 1000 := by omega
 clear own HP he hc0 hp0
 go_enter Tryz.func147, Tryz.ntmps147
 go_wp2_with (fail)
 refine HIX.out.mono ?_
 rintro e w1 ⟨⟨k, rfl, hk⟩, k1⟩
 rcases hk with ⟨rfl, hall⟩ | ⟨j0, rfl, hj0, hpj, hbefore⟩
 ·have HA : Hid ((l.filter fun x => !pr x) = l) := Lib.hid (List.filter_eq_self.2 fun x hx => by rw [hall x hx]; rfl)
  have K1 := Lib.hid k1
  clear hall k1
  go_wp2_with (fail)
  go_ret
  rw [HA.out]
  exact ⟨rfl, own_kept HO.out.1 K1.out (by simp), K1.out.mono (by simp)⟩
 ·obtain ⟨own, HP⟩ := HO.out
  obtain ⟨g, cur, hpe, hbase, hg, hnc, hcm, hsz, htk⟩ : ∃ g cur, p = some ⟨g, 0, none⟩ ∧ base ≤ g ∧ w.heap[g]? = some (.cells cur 146 (0, 0)) ∧ l.length ≤ c ∧ c ≤ maxLen ∧ cur.size = c * 3 ∧ cur.toList.take (l.length * 3) = chsCells l := by
   rcases own.2 with ⟨_, h0⟩ | ⟨g, cap, cur, e, h1, h2, h3, h4, h5, h6⟩
   ·omega
   ·injection e with e1 e2 e3
    subst e3
    exact ⟨g, cur, e1, h1, h2, h3, h4, h5, h6⟩
  subst hpe
  have hT : (Value.slice (some ⟨g, 0, none⟩) l.length c).ownBlock.toList = [g] := rfl
  have hcur : ∀ t, t < l.length * 3 → cur[t]? = (chsCells l)[t]? := fun t ht => by rw [← htk, List.getElem?_take_of_lt ht, Array.getElem?_toList]
  have hfk : ((l.take (j0 + 1)).filter fun x => !pr x).length = j0 ∧ (l.take (j0 + 1)).filter (fun x => !pr x) = l.take j0 := by
   have e : (l.take (j0 + 1)).filter (fun x => !pr x) = l.take j0 := by
    rw [List.take_add_one, List.getElem?_eq_getElem hj0, List.filter_append]
    have e1 : (l.take j0).filter (fun x => !pr x) = l.take j0 := List.filter_eq_self.2 fun x hx => by
     obtain ⟨i, hi, rfl⟩ := List.getElem_of_mem hx
     rw [List.length_take] at hi
     rw [List.getElem_take]
     have := hbefore i (by omega)
     rw [this]; rfl
    rw [e1]
    simp [hpj]
   exact ⟨by rw [e, List.length_take]; omega, e⟩
  have hst : ∀ t, t < j0 * 3 → cur[t]? = (chsCells ((l.take (j0 + 1)).filter fun x => !pr x))[t]? := by
   intro t ht
   rw [hfk.2, hcur t (by omega)]
   have e : chsCells l = chsCells (l.take j0) ++ chsCells (l.drop j0) := by rw [← chsCells_append, List.take_append_drop]
   rw [e, List.getElem?_append_left (by rw [chsCells_len, List.length_take]; omega)]
  have H0 := Lib.hid (And.intro hg (And.intro hsz (And.intro hcur (And.intro hfk.1.symm (And.intro hst (And.intro k1 (And.intro HP (And.intro hbase (And.intro hnc hcm)))))))))
  have hj1 : ((j0 : Int) == -1) = false := by simp
  have hjI : (j0 : Int) < l.length := by omega
  have hcI : (l.length : Int) ≤ c := by omega
  have hcz : (c : Int) ≤ 9223372036854775807 := by unfold maxLen at hcm; omega
  clear hg hsz hcur hfk hst k1 HP hbase hnc hcm htk own hpj hbefore HO HIX
  clear hT
  go_wp2_with (fail)
  go_loopw [5, 6] (fun vi vj wr => ∃ (a b : Nat) (cur' : Array Value), vi = I a ∧ vj = I b ∧ a < b ∧ b ≤ l.length ∧ a = ((l.take b).filter fun x => !pr x).length ∧ wr.heap[g]? = some (.cells cur' 146 (0, 0)) ∧ cur'.size = c * 3 ∧ (∀ t, t < a * 3 → cur'[t]? = (chsCells ((l.take b).filter fun x => !pr x))[t]?) ∧ (∀ t, b * 3 ≤ t → t < l.length * 3 → cur'[t]? = (chsCells l)[t]?) ∧ Kept [g] w wr) (fun _ vj _ => l.length - (intOf vj).toNat)
  case atStart => exact ⟨j0, j0 + 1, cur, rfl, by go_num, by omega, by omega, H0.out.2.2.2.1, H0.out.2.2.2.2.2.1.at H0.out.1 (by simp), H0.out.2.1, H0.out.2.2.2.2.1, fun t _ ht => H0.out.2.2.1 t ht, H0.out.2.2.2.2.2.1.mono (by simp)⟩
  case round =>
   obtain ⟨a, b, cur', rfl, rfl, hab, hbl, ha, hg', hsz', hc1, hc2, kr⟩ := hrel
   by_cases hlt : b < l.length
   ·have hltI : (b : Int) < l.length := by omega
    have haI : (a : Int) < l.length := by omega
    have haI2 : (a : Int) < b := by omega
    obtain ⟨q1, q2, q3⟩ := chsCells_at l b hlt
    have e0 : wr.cell? ⟨g, b * 3, none⟩ = some (I l[b].key) := by rw [cell_at hg', hc2 _ (by omega) (by omega)]; exact q1
    have e1 : wr.cell? ⟨g, b * 3 + 1, none⟩ = some (S l[b].val) := by rw [cell_at hg', hc2 _ (by omega) (by omega)]; exact q2
    have e2 : wr.cell? ⟨g, b * 3 + 2, none⟩ = some (.bool l[b].drop) := by rw [cell_at hg', hc2 _ (by omega) (by omega)]; exact q3
    obtain ⟨x, hx⟩ : ∃ x, l[b] = x := ⟨_, rfl⟩
    have hxm : x ∈ l := by rw [← hx]; exact List.getElem_mem hlt
    have htk : l.take (b + 1) = l.take b ++ [x] := by rw [List.take_add_one, List.getElem?_eq_getElem hlt, hx]; rfl
    rw [hx] at e0 e1 e2 q1 q2 q3
    have hnw := heap_new wr (Obj.cells #[I x.key, S x.val, .bool x.drop] 146)
    have hkx := (Kept.refl [] wr).alloc (Obj.cells #[I x.key, S x.val, .bool x.drop] 146)
    have HPX := Lib.hid (H0.out.2.2.2.2.2.2.1 _ (kr.trans' (hkx.mono (by simp))) x hxm)
    have HR := Lib.hid (And.intro ha (And.intro hg' (And.intro hsz' (And.intro hc1 (And.intro hc2 (And.intro kr (And.intro htk (And.intro hnw (And.intro hkx hbl)))))))))
    clear ha hg' hsz' hc1 hc2 kr htk hnw hkx q1 q2 q3 hx hxm
    go_wp2_with (fail)
    refine HPX.out.mono ?_
    rintro e w5 ⟨rfl, k5⟩
    have hnw5 := k5.at HR.out.2.2.2.2.2.2.2.1 (by simp)
    have hg5 := (HR.out.2.2.2.2.2.2.2.2.1.trans' k5).at HR.out.2.1 (by simp)
    have m0 := cell_at hnw5 0
    have m1 := cell_at hnw5 1
    have m2 := cell_at hnw5 2
    simp only [List.getElem?_toArray, List.getElem?_cons_zero, List.getElem?_cons_succ] at m0 m1 m2
    have K5 := Lib.hid (And.intro (HR.out.2.2.2.2.2.2.2.2.1.trans' k5) hg5)
    clear k5 hnw5 e0 e1 e2
    cases hpx : pr x with
    | true =>
     have HX := Lib.hid hpx
     clear hpx hg5
     go_wp2_with (fail)
     go_roundw
     case rel =>
      obtain ⟨ha, hg', hsz', hc1, hc2, kr, htk, _, _, hbl⟩ := HR.out
      have hf : (l.take (b + 1)).filter (fun x => !pr x) = (l.take b).filter (fun x => !pr x) := by rw [htk, List.filter_append]; simp [HX.out]
      exact ⟨a, b + 1, cur', rfl, by go_num, by omega, by omega, by rw [hf]; exact ha, K5.out.2, hsz', by rw [hf]; exact hc1, fun t h1 h2 => hc2 t (by omega) h2, kr.trans' (K5.out.1.mono (by simp))⟩
     case measure => simp [intOf]; omega
    | false =>
     have HX := Lib.hid hpx
     have hszz := HR.out.2.2.1
     have hbl := HR.out.2.2.2.2.2.2.2.2.2
     have hnc := H0.out.2.2.2.2.2.2.2.2.1
     obtain ⟨v0, n0⟩ : ∃ v, w5.cell? ⟨g, a * 3, none⟩ = some v := by rw [cell_at hg5, Array.getElem?_eq_getElem (by omega)]; exact ⟨_, rfl⟩
     obtain ⟨v1, n1⟩ : ∃ v, w5.cell? ⟨g, a * 3 + 1, none⟩ = some v := by rw [cell_at hg5, Array.getElem?_eq_getElem (by omega)]; exact ⟨_, rfl⟩
     obtain ⟨v2, n2⟩ : ∃ v, w5.cell? ⟨g, a * 3 + 2, none⟩ = some v := by rw [cell_at hg5, Array.getElem?_eq_getElem (by omega)]; exact ⟨_, rfl⟩
     have hfr := free_at hg5
     have hgA := heap_setCell_at hg5 (a * 3) (I x.key)
     have hgB := heap_setCell_at hgA (a * 3 + 1) (S x.val)
     have hgC := heap_setCell_at hgB (a * 3 + 2) (.bool x.drop)
     have kC : Kept [g] w5 (((w5.setCell ⟨g, a * 3, none⟩ (I x.key)).setCell ⟨g, a * 3 + 1, none⟩ (S x.val)).setCell ⟨g, a * 3 + 2, none⟩ (.bool x.drop)) := (((Kept.refl [g] w5).setCell (.inl (by simp)) _).setCell (.inl (by simp)) _).setCell (.inl (by simp)) _
     have HG := Lib.hid (And.intro hgC kC)
     clear hpx hg5 hszz hbl hnc hgA hgB hgC kC
     go_wp2_with (fail)
     go_roundw
     case rel =>
      obtain ⟨ha, hg', hsz', hc1, hc2, kr, htk, _, _, hbl⟩ := HR.out
      have hnc := H0.out.2.2.2.2.2.2.2.2.1
      have hf : (l.take (b + 1)).filter (fun x => !pr x) = (l.take b).filter (fun x => !pr x) ++ [x] := by rw [htk, List.filter_append]; simp [HX.out]
      refine ⟨a + 1, b + 1, _, by go_num, by go_num, by omega, by omega, by rw [hf, List.length_append, ← ha]; rfl, HG.out.1, by simp only [Array.size_setIfInBounds]; exact hsz', ?_, ?_, kr.trans' ((K5.out.1.mono (by simp)).trans' HG.out.2)⟩
      ·intro t ht
       rw [hf, chsCells_append]
       have hla : (chsCells ((l.take b).filter fun x => !pr x)).length = a * 3 := by rw [chsCells_len, ← ha]
       by_cases h1 : t < a * 3
       ·rw [List.getElem?_append_left (by omega), Array.getElem?_setIfInBounds_ne (by omega), Array.getElem?_setIfInBounds_ne (by omega), Array.getElem?_setIfInBounds_ne (by omega)]
        exact hc1 t h1
       ·rw [List.getElem?_append_right (by omega), hla]
        have e : chsCells [x] = [I x.key, S x.val, .bool x.drop] := rfl
        rw [e]
        rcases (by omega : t = a * 3 ∨ t = a * 3 + 1 ∨ t = a * 3 + 2) with h | h | h
        ·subst h
         rw [Array.getElem?_setIfInBounds_ne (by omega), Array.getElem?_setIfInBounds_ne (by omega), Array.getElem?_setIfInBounds_self_of_lt (by omega)]
         simp
        ·subst h
         rw [Array.getElem?_setIfInBounds_ne (by omega), Array.getElem?_setIfInBounds_self_of_lt (by rw [Array.size_setIfInBounds]; omega)]
         simp
        ·subst h
         rw [Array.getElem?_setIfInBounds_self_of_lt (by simp only [Array.size_setIfInBounds]; omega)]
         simp
      ·intro t h1 h2
       rw [Array.getElem?_setIfInBounds_ne (by omega), Array.getElem?_setIfInBounds_ne (by omega), Array.getElem?_setIfInBounds_ne (by omega)]
       exact hc2 t (by omega) h2
     case measure => simp [intOf]; omega
   ·have hbe : b = l.length := by omega
    subst hbe
    rw [List.take_length] at ha hc1
    have hnc := H0.out.2.2.2.2.2.2.2.2.1
    have hcl := fun ty => clear_ch wr ty g (a * 3) (l.length - a) (c - a) (by omega) (fun j hj => by rw [cell_at hg', Array.getElem?_eq_getElem (by omega)]; rfl) (fun j hj => free_at hg' _)
    obtain ⟨z1, z2⟩ := zero_ch (l.length - a)
    obtain ⟨Z, hZ⟩ : ∃ Z, (Builtin.zeroCells (Value.agg #[I 0, S [], .bool false]).cells (l.length - a)).toList = Z := ⟨_, rfl⟩
    rw [hZ] at hcl z1
    obtain ⟨cur2, r1, r2, r3, r4⟩ := setCells_row g 146 Z (a * 3) cur' wr hg' (by rw [z1]; omega)
    have FIN : Hid (OwnC base (some ⟨g, 0, none⟩) c (l.filter fun x => !pr x) (wr.setCells g (a * 3) Z) ∧ Kept [g] w (wr.setCells g (a * 3) Z) ∧ (l.filter fun x => !pr x).length = a) := Lib.hid ⟨⟨by rw [chsCells_len], .inr ⟨g, c, cur2, rfl, H0.out.2.2.2.2.2.2.2.1, r1, by omega, H0.out.2.2.2.2.2.2.2.2.2, by rw [r2, hsz'], by
     rw [← ha]
     apply List.ext_getElem?
     intro t
     by_cases ht : t < a * 3
     ·rw [List.getElem?_take_of_lt ht, Array.getElem?_toList, r3, if_neg (by omega)]
      exact hc1 t ht
     ·rw [List.getElem?_eq_none (by simp; omega), List.getElem?_eq_none (by rw [chsCells_len, ← ha]; omega)]⟩⟩, kr.trans' r4, ha.symm⟩
    have haI : (a : Int) < l.length := by omega
    have haI2 : (a : Int) ≤ c := by omega
    have hca : ¬ c = a := by omega
    clear r1 r2 r3 r4 z1 z2 hZ ha hg' hsz' hc1 hc2 kr hnc H0
    go_wp2_with (fail)
    go_ret
    rw [FIN.out.2.2]
    exact ⟨rfl, FIN.out.1, FIN.out.2.1⟩
end Go.Proofs.YteplbljjlbdhaaaGreatDoor
