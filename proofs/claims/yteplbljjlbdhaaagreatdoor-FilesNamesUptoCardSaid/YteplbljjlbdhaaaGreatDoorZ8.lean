/- Walks and lemmas on the program of this seat, used by its statements; each theorem bears its own conditions. -/
import Derived.Test.YteplbljjlbdhaaaGreatDoorZ7
import Derived.Lib.AppendStr
namespace Go.Proofs.YteplbljjlbdhaaaGreatDoor
open Go.RowKit
set_option linter.unusedVariables false
set_option linter.unusedSimpArgs false
set_option linter.unusedSectionVars false
set_option maxHeartbeats 16000000
set_option maxRecDepth 100000
abbrev OwnL (B : Nat) (p : Option Addr) (c n : Nat) (l : List UInt8) (w : World) : Prop := w.ownsRow B 5 1 (.slice p n c) n (Lib.byteCells l)
theorem OwnL.len {B : Nat} {p : Option Addr} {c n : Nat} {l : List UInt8} {w : World} (h : OwnL B p c n l w) : n = l.length := by
 have := h.1
 simp [Lib.byteCells] at this
 omega
theorem ownL_nil (B : Nat) (w : World) : OwnL B none 0 0 [] w := ⟨rfl, .inl ⟨rfl, rfl⟩⟩
section
variable (w : World) {ops : Array Oper} {rest : List Oper} {o : Oper} {a : Act} {K : Act → World → Prop} {Q : Exit → Act → World → Prop}
theorem wp_appS (s x : Operand) (ho : o.op = .call { callee := .builtin .append, args := #[s, x], argTypes := #[64, 9] }) (Bs : Nat) (p : Option Addr) (c n : Nat) (l t : List UInt8)
  (hs : a.eval s = .slice p n c) (own : OwnL Bs p c n l w) (hx : a.eval x = S t) (hb : n + t.length ≤ 1000000) (hB : Bs ≤ w.heap.size)
  (h : ∀ p' c' w', OwnL Bs p' c' (n + t.length) (l ++ t) w' → Kept (Value.slice p n c).ownBlock.toList w w' → K (a.put o.dst (.slice p' (n + t.length) c')) w') : o.wp Tryz.prog a w K Q := by
 obtain ⟨i0, hi, hz0, hz1, hz2⟩ := info_parts byte_info
 have hsz : (⟨t.toArray⟩ : ByteArray).size = t.length := by simp [ByteArray.size]
 obtain ⟨v', w', hr, h2, h3, h4⟩ := Lib.run_append_own_string (P := Tryz.prog) w Bs 64 9 o.type 5 i0 Tryz.underlying64 Tryz.underlying9 hi hz0 hz1 hz2 (.slice p n c) n _ own ⟨t.toArray⟩ (by rw [hsz]; unfold maxLen; omega) (by rw [hsz]; omega) hB
 rw [hsz] at h2
 obtain ⟨p', c', rfl⟩ := own_form h2
 unfold Oper.wp execOp
 simp only [ho, resolve, invoke, builtin, Sem.run_bind, Sem.run_pure, Result.andThen_ok, List.map_toArray, List.map_cons, List.map_nil, hs, hx, hr]
 refine h p' c' w' ?_ (kept_grown h3)
 have e : Lib.byteCells l ++ Lib.strCells ⟨t.toArray⟩ = Lib.byteCells (l ++ t) := by
  show _ ++ Lib.byteCells t = _
  simp [Lib.byteCells]
 show w'.ownsRow Bs 5 1 _ _ (Lib.byteCells (l ++ t))
 rw [← e]; exact h2
theorem wpList_appS (hgd : o.guard = none) (s x : Operand) (ho : o.op = .call { callee := .builtin .append, args := #[s, x], argTypes := #[64, 9] }) (Bs : Nat) (p : Option Addr) (c n : Nat) (l t : List UInt8)
  (hs : a.eval s = .slice p n c) (own : OwnL Bs p c n l w) (hx : a.eval x = S t) (hb : n + t.length ≤ 1000000) (hB : Bs ≤ w.heap.size)
  (h : ∀ p' c' w', OwnL Bs p' c' (n + t.length) (l ++ t) w' → Kept (Value.slice p n c).ownBlock.toList w w' → wpList Tryz.prog ops Q rest (a.put o.dst (.slice p' (n + t.length) c')) w') : wpList Tryz.prog ops Q (o :: rest) a w :=
 wpList_plain hgd fun _ hK => wp_appS w s x ho Bs p c n l t hs own hx hb hB fun p' c' w' h1 h2 => hK _ _ (h p' c' w' h1 h2)
theorem step_appS {E : Prop} (hgd : o.guard = none) (s x : Operand) (ho : o.op = .call { callee := .builtin .append, args := #[s, x], argTypes := #[64, 9] }) (Bs : Nat) (p : Option Addr) (c n : Nat) (l t : List UInt8)
  (hs : a.eval s = .slice p n c) (own : OwnL Bs p c n l w) (hx : a.eval x = S t) (hb : n + t.length ≤ 1000000) (hB : Bs ≤ w.heap.size)
  (h : ∀ p' c' w', OwnL Bs p' c' (n + t.length) (l ++ t) w' → Kept (Value.slice p n c).ownBlock.toList w w' → K (a.put o.dst (.slice p' (n + t.length) c')) w') :
  if Region.wanted o (yielded ops a.tmps) = true then Oper.wp Tryz.prog o a w K Q else E := by
 have hw : Region.wanted o (yielded ops a.tmps) = true := by simp [Region.wanted, hgd]
 rw [if_pos hw]
 exact wp_appS w s x ho Bs p c n l t hs own hx hb hB h
theorem wp_appB (s x : Operand) (ho : o.op = .call { callee := .builtin .append, args := #[s, x], argTypes := #[64, 64] }) (Bs : Nat) (p : Option Addr) (c n : Nat) (l : List UInt8) (g : Nat) (y : UInt8)
  (hs : a.eval s = .slice p n c) (own : OwnL Bs p c n l w) (hx : a.eval x = .slice (some ⟨g, 0, none⟩) 1 1) (hg : w.heap[g]? = some (.cells #[B y] 5 (0, 0))) (hb : n + 1 ≤ 1000000) (hB : Bs ≤ w.heap.size)
  (h : ∀ p' c' w', OwnL Bs p' c' (n + 1) (l ++ [y]) w' → Kept (Value.slice p n c).ownBlock.toList w w' → K (a.put o.dst (.slice p' (n + 1) c')) w') : o.wp Tryz.prog a w K Q := by
 obtain ⟨i0, hi, hz0, hz1, hz2⟩ := info_parts byte_info
 refine wp_append_lies (P := Tryz.prog) w s x 64 ho Bs 5 i0 (.int .u8 0) 1 1 Tryz.underlying64 hi hz0 hz1 hz2 rfl (by decide) (.slice p n c) n _ hs own ⟨g, 0, none⟩ 1 1 [B y] hx rfl (World.news_of_block hg) (by intro u hu; simp at hu; subst hu; rfl) (by decide) (by unfold maxLen; omega) (by omega) hB _ rfl ?_
 intro g' cap w' h2 h3 _ _
 refine h _ cap w' ?_ (kept_grown h3)
 have e : Lib.byteCells l ++ [B y] = Lib.byteCells (l ++ [y]) := by simp [Lib.byteCells]
 show w'.ownsRow Bs 5 1 _ _ (Lib.byteCells (l ++ [y]))
 rw [← e]; exact h2
theorem wpList_appB (hgd : o.guard = none) (s x : Operand) (ho : o.op = .call { callee := .builtin .append, args := #[s, x], argTypes := #[64, 64] }) (Bs : Nat) (p : Option Addr) (c n : Nat) (l : List UInt8) (g : Nat) (y : UInt8)
  (hs : a.eval s = .slice p n c) (own : OwnL Bs p c n l w) (hx : a.eval x = .slice (some ⟨g, 0, none⟩) 1 1) (hg : w.heap[g]? = some (.cells #[B y] 5 (0, 0))) (hb : n + 1 ≤ 1000000) (hB : Bs ≤ w.heap.size)
  (h : ∀ p' c' w', OwnL Bs p' c' (n + 1) (l ++ [y]) w' → Kept (Value.slice p n c).ownBlock.toList w w' → wpList Tryz.prog ops Q rest (a.put o.dst (.slice p' (n + 1) c')) w') : wpList Tryz.prog ops Q (o :: rest) a w :=
 wpList_plain hgd fun _ hK => wp_appB w s x ho Bs p c n l g y hs own hx hg hb hB fun p' c' w' h1 h2 => hK _ _ (h p' c' w' h1 h2)
theorem step_appB {E : Prop} (hgd : o.guard = none) (s x : Operand) (ho : o.op = .call { callee := .builtin .append, args := #[s, x], argTypes := #[64, 64] }) (Bs : Nat) (p : Option Addr) (c n : Nat) (l : List UInt8) (g : Nat) (y : UInt8)
  (hs : a.eval s = .slice p n c) (own : OwnL Bs p c n l w) (hx : a.eval x = .slice (some ⟨g, 0, none⟩) 1 1) (hg : w.heap[g]? = some (.cells #[B y] 5 (0, 0))) (hb : n + 1 ≤ 1000000) (hB : Bs ≤ w.heap.size)
  (h : ∀ p' c' w', OwnL Bs p' c' (n + 1) (l ++ [y]) w' → Kept (Value.slice p n c).ownBlock.toList w w' → K (a.put o.dst (.slice p' (n + 1) c')) w') :
  if Region.wanted o (yielded ops a.tmps) = true then Oper.wp Tryz.prog o a w K Q else E := by
 have hw : Region.wanted o (yielded ops a.tmps) = true := by simp [Region.wanted, hgd]
 rw [if_pos hw]
 exact wp_appB w s x ho Bs p c n l g y hs own hx hg hb hB h
end
theorem conv_own {w : World} {Bs : Nat} {p : Option Addr} {c n : Nat} {l : List UInt8} (h : OwnL Bs p c n l w) : (convert 64 9 (.slice p n c)).run Tryz.prog w = .ok (S l) w := by
 have hn := h.len
 subst hn
 rcases h.2 with ⟨e, h0⟩ | ⟨g, cap, cur, e, hb, hg, hnc, _, hsz, htake⟩
 ·have : l = [] := List.eq_nil_of_length_eq_zero h0
  subst this
  injection e with e1 e2 e3
  subst e1
  exact run_convert_bytes_nil w 64 5 Tryz.underlying64 Tryz.underlying5 _ _ 9 Tryz.underlying9
 ·injection e with e1 e2 e3
  subst e1
  have hr := run_convert_bytes_arg (P := Tryz.prog) w 64 5 Tryz.underlying64 Tryz.underlying5 g 0 l.length c (l.map fun c => (c.toNat : Int)) (by simp) (fun i hi => by
   rw [cell_at hg, Nat.zero_add]
   have h1 : (cur.toList.take (l.length * 1))[i]? = some (Value.int .u8 ((l.map fun c => (c.toNat : Int)).getD i 0)) := by rw [htake]; simp [Lib.byteCells, List.getD, hi]
   rw [List.getElem?_take_of_lt (by omega)] at h1
   rw [← Array.getElem?_toList]; exact h1) 9 Tryz.underlying9
  rw [hr]
  have : strOfNums (l.map fun c => (c.toNat : Int)) = ⟨l.toArray⟩ := by
   unfold strOfNums; rw [List.map_map]; congr 1
   have : l.map ((fun n : Int => UInt8.ofNat n.toNat) ∘ fun c : UInt8 => (c.toNat : Int)) = l := by
    conv => rhs; rw [← List.map_id l]
    apply List.map_congr_left; intro x _; simp
   rw [this]
  rw [this]
def ChsAt (w : World) (v : Value) (l : List Ch) : Prop := ∃ p c b o, v = .slice p l.length c ∧ (l ≠ [] → p = some ⟨b, o, none⟩) ∧
 ∀ (i : Nat) (hi : i < l.length), w.cell? ⟨b, o + i * 3, none⟩ = some (I l[i].key) ∧ w.cell? ⟨b, o + i * 3 + 1, none⟩ = some (S l[i].val) ∧ w.cell? ⟨b, o + i * 3 + 2, none⟩ = some (.bool l[i].drop)
theorem ChsAt.kept {w w' : World} {T : List Nat} {v : Value} {l : List Ch} (h : ChsAt w v l) (k : Kept T w w') (hT : ∀ q, v.ownBlock = some q → q ∉ T) : ChsAt w' v l := by
 obtain ⟨p, c, b, o, rfl, hp, hc⟩ := h
 by_cases hl : l = []
 ·subst hl
  exact ⟨p, c, b, o, rfl, fun h => absurd rfl h, fun i hi => by simp at hi⟩
 ·have e := hp hl
  subst e
  have hb : b ∉ T := hT b rfl
  refine ⟨_, c, b, o, rfl, fun _ => rfl, fun i hi => ?_⟩
  obtain ⟨h1, h2, h3⟩ := hc i hi
  exact ⟨(k.cell (p := ⟨b, o + i * 3, none⟩) (World.block_lt_of_cell? w _ h1) hb).trans h1, (k.cell (p := ⟨b, o + i * 3 + 1, none⟩) (World.block_lt_of_cell? w _ h2) hb).trans h2, (k.cell (p := ⟨b, o + i * 3 + 2, none⟩) (World.block_lt_of_cell? w _ h3) hb).trans h3⟩
theorem ChsAt.same {w w' : World} {v : Value} {l : List Ch} (h : ChsAt w v l) (k : Kept [] w w') : ChsAt w' v l := h.kept k (by simp)
theorem weight_any (n : Nat) (hn : n ≤ 256) (w : World) : Calls Tryz.prog 142 #[I n] w fun e w' => e = .returned (I (pagesF (7 + n) : Nat)) ∧ w' = w := by
 have HP := Lib.hid (fun W => pages_any (7 + n) (by omega) W)
 have hnI : (n : Int) ≤ 256 := by omega
 obtain ⟨m, hm⟩ : ∃ m, 7 + n = m := ⟨_, rfl⟩
 have hmI : (7 : Int) + n = m := by omega
 rw [hm] at HP ⊢
 have hm2 : (m : Int) ≤ 263 := by omega
 clear hm
 go_enter Tryz.func142, Tryz.ntmps142
 go_wp2_with (fail)
 refine (HP.out _).mono ?_
 rintro e w1 ⟨rfl, rfl⟩
 go_wp2_with (fail)
 go_ret
 exact ⟨rfl, rfl⟩
theorem recF_snoc (l : List Ch) (c : Ch) : recF (l ++ [c]) = recF l ++ chB c := by simp [recF]
theorem orecord_any (l : List Ch) (v : Value) (w : World) (hv : ChsAt w v l) (hl : l.length ≤ 1000) (hk : ∀ c ∈ l, 1 ≤ c.key ∧ c.key ≤ 2147483647 ∧ c.val.length ≤ 256) :
    Calls Tryz.prog 115 #[v] w fun e w' => e = .returned (S (recF l)) ∧ Kept [] w w' := by
  obtain ⟨p, c, b, o, rfl, hp, hc⟩ := hv
  have hlI : (l.length : Int) ≤ 1000 := by omega
  have HC := Lib.hid (And.intro hc (And.intro hk hp))
  have hbnd : ∀ j, (recF (l.take j)).length ≤ 263 * j := by
    intro j
    induction j with
    | zero => simp [recF]
    | succ j ih =>
      rw [List.take_add_one]
      cases hj : l[j]? with
      | none => simp only [Option.toList_none, List.append_nil]; omega
      | some x =>
        simp only [Option.toList_some, recF_snoc, List.length_append]
        have := chB_len x
        have := (hk x (List.mem_of_getElem? hj)).2.2
        split at * <;> omega
  have HB := Lib.hid hbnd
  clear hc hk hp hbnd
  go_enter Tryz.func115, Tryz.ntmps115
  go_wp2_with (fail)
  go_loopw [3, 12] (fun v3 i wr => ∃ (j : Nat) (p' : Option Addr) (c' n' : Nat), j ≤ l.length ∧ i = I j ∧ v3 = .slice p' n' c' ∧ OwnL w.heap.size p' c' n' (recF (l.take j)) wr ∧ Kept [] w wr) (fun _ i _ => l.length - (intOf i).toNat)
  case atStart => exact ⟨0, none, 0, 0, by omega, rfl, rfl, ownL_nil _ _, Kept.refl _ _⟩
  case round =>
    obtain ⟨j, p', c', n', hj, rfl, rfl, own, kr⟩ := hrel
    by_cases hlt : j < l.length
    · obtain ⟨hc, hk, hp⟩ := HC.out
      have hpe := hp (by intro h; subst h; simp at hlt)
      subst hpe
      have hltI : (j : Int) < l.length := by omega
      obtain ⟨d0, d1, d2⟩ := hc j hlt
      have e0 := kr.cellOf d0
      have e1 := kr.cellOf d1
      have e2 := kr.cellOf d2
      obtain ⟨⟨ky, vl, dr⟩, hx⟩ : ∃ x, l[j] = x := ⟨_, rfl⟩
      obtain ⟨hk1, hk2, hk3⟩ := hk l[j] (List.getElem_mem hlt)
      rw [hx] at e0 e1 e2 hk1 hk2 hk3
      simp only at e0 e1 e2 hk1 hk2 hk3
      have htk : recF (l.take (j + 1)) = recF (l.take j) ++ chB ⟨ky, vl, dr⟩ := by
        rw [List.take_add_one, List.getElem?_eq_getElem hlt, hx]; exact recF_snoc _ _
      have hbj := HB.out j
      obtain ⟨R, hR⟩ : ∃ R, recF (l.take j) = R := ⟨_, rfl⟩
      rw [hR] at own htk hbj
      have hn' := own.len
      have hRb : n' ≤ 263000 := by omega
      have hkn : ((ky.toNat : Nat) : Int) = ky := by omega
      have HPK := Lib.hid (fun W => put_any W ky.toNat 4 (by omega) (by omega) (by omega))
      have HPL := Lib.hid (fun W => put_any W vl.length 2 (by omega) (by omega) (by omega))
      rw [hkn] at HPK
      have hpl4 := putN_len 4 ky.toNat
      have hpl2 := putN_len 2 vl.length
      obtain ⟨kb, hkb⟩ : ∃ kb, putN 4 ky.toNat = kb := ⟨_, rfl⟩
      obtain ⟨lb, hlb⟩ : ∃ lb, putN 2 vl.length = lb := ⟨_, rfl⟩
      have hch : chB ⟨ky, vl, dr⟩ = if dr then 0 :: kb else (1 :: kb) ++ lb ++ vl := by rw [← hkb, ← hlb]; rfl
      rw [hkb] at HPK hpl4
      rw [hlb] at HPL hpl2
      have HJ := Lib.hid (And.intro htk (And.intro hch (And.intro own (And.intro kr (And.intro hRb (And.intro hpl4 (And.intro hpl2 hk3)))))))
      clear htk hch own kr hRb hpl4 hpl2 hx hk1 hk2 hc hk hp d0 d1 d2 hR hn' hkb hlb hbj
      have hvI : (vl.length : Int) ≤ 256 := by omega
      cases dr with
      | true =>
        have hnw := heap_new wr (Obj.cells #[I ky, S vl, .bool true] 146)
        go_wp2_with (fail)
        refine (HPK.out _).mono ?_
        rintro e w2 ⟨rfl, k2⟩
        have g2 := cell_at (k2.at hnw (by simp)) 2
        simp only [List.getElem?_toArray, List.getElem?_cons_zero, List.getElem?_cons_succ] at g2
        have K2 := Lib.hid (((Kept.refl [] wr).alloc (Obj.cells #[I ky, S vl, .bool true] 146)).trans' k2)
        clear k2 hnw e0 e1 e2
        go_wp2_with (first
          | (at_builtin
             refine wpList_appB _ rfl (.tmp 24) (.tmp 25) rfl w.heap.size p' c' n' R w2.heap.size 0 rfl (own_kept HJ.out.2.2.1 (K2.out.alloc _) (by simp)) rfl (heap_new w2 _) (by have := HJ.out.2.2.2.2.1; omega) (by have := (HJ.out.2.2.2.1.trans' K2.out).size; rw [World.size_alloc]; omega) ?_
             intro p3 c3 w3 own3 k3
             have H3 := Lib.hid (And.intro own3 k3)
             clear own3 k3 g2)
          | (at_builtin
             refine wpList_appS _ rfl (.tmp 26) (.tmp 27) rfl w.heap.size p3 c3 (n' + 1) (R ++ [0]) kb rfl H3.out.1 rfl (by have := HJ.out; omega) (by have := (HJ.out.2.2.2.1.trans' K2.out).size; have := H3.out.2.size; rw [World.size_alloc] at this; omega) ?_
             intro p4 c4 w4 own4 k4
             have H4 := Lib.hid (And.intro own4 k4)
             clear own4 k4))
        go_roundw
        case rel =>
          obtain ⟨htk, hch, own, kr, hRb, hpl4, hpl2, hvl⟩ := HJ.out
          refine ⟨j + 1, p4, c4, n' + 1 + kb.length, by omega, by go_num, rfl, ?_, ?_⟩
          · have e1 : chB ⟨ky, vl, true⟩ = 0 :: kb := hch.trans (by simp)
            have e : R ++ (0 :: kb) = R ++ [0] ++ kb := by simp
            rw [htk, e1, e]
            exact H4.out.1
          · refine ((kr.trans' (K2.out.alloc (Obj.cells #[.int .u8 0] 5))).new H3.out.2 ?_).new H4.out.2 ?_
            · intro x hx; exact (own_lt own x (by simpa using hx)).1
            · intro x hx; exact (own_lt H3.out.1 x (by simpa using hx)).1
        case measure => simp [intOf]; omega
      | false =>
        have hnw := heap_new wr (Obj.cells #[I ky, S vl, .bool false] 146)
        go_wp2_with (fail)
        refine (HPK.out _).mono ?_
        rintro e w2 ⟨rfl, k2⟩
        have g1 := cell_at (k2.at hnw (by simp)) 1
        have g2 := cell_at (k2.at hnw (by simp)) 2
        simp only [List.getElem?_toArray, List.getElem?_cons_zero, List.getElem?_cons_succ] at g1 g2
        have K2 := Lib.hid (And.intro hnw (((Kept.refl [] wr).alloc (Obj.cells #[I ky, S vl, .bool false] 146)).trans' k2))
        have H2 := Lib.hid k2
        clear k2 hnw e0 e1 e2
        go_wp2_with (fail)
        refine (HPL.out _).mono ?_
        rintro e w3 ⟨rfl, k3⟩
        have hnw3 := k3.at (H2.out.at K2.out.1 (by simp)) (by simp)
        have f1 := cell_at (((Kept.refl [] w3).alloc (Obj.cells #[.int .u8 1] 5)).at hnw3 (by simp)) 1
        have f1a := cell_at hnw3 1
        have f1b := cell_at ((Kept.refl [] w3).drew.at hnw3 (by simp)) 1
        have f1d := cell_at (((Kept.refl [] w3).alloc (Obj.cells #[.int .u8 1] 5)).drew.at hnw3 (by simp)) 1
        simp only [List.getElem?_toArray, List.getElem?_cons_zero, List.getElem?_cons_succ] at f1 f1d f1a f1b
        have K3 := Lib.hid (K2.out.2.trans' k3)
        have HN3 := Lib.hid hnw3
        clear k3 g1 g2 hnw3
        go_upto_region 9 with (fail)
        have HW0 : Hid (Kept [] wr (w3.alloc (Obj.cells #[.int .u8 1] 5)).drew ∧ (w3.alloc (Obj.cells #[.int .u8 1] 5)).drew.heap[w3.heap.size]? = some (Obj.cells #[B 1] 5 (0, 0)) ∧ (w3.alloc (Obj.cells #[.int .u8 1] 5)).drew.heap[wr.heap.size]? = some (Obj.cells #[I ky, S vl, .bool false] 146 (0, 0))) := Lib.hid ⟨(K3.out.alloc _).drew, heap_new w3 _, ((Kept.refl [] w3).alloc _).drew.at HN3.out (by simp)⟩
        have hsep : Hid (∀ (p : Option Addr) (c n : Nat) (L : List UInt8) (W : World), OwnL w.heap.size p c n L W → W.heap[wr.heap.size]? = some (Obj.cells #[I ky, S vl, .bool false] 146 (0, 0)) → wr.heap.size ∉ (Value.slice p n c).ownBlock.toList) := Lib.hid (by
          intro p c n L W ow hb hm
          rcases ow.2 with ⟨e, _⟩ | ⟨g, cap, cur, e, _, hg, _⟩
          · rw [e] at hm; simp [Value.ownBlock] at hm
          · rw [e] at hm
            have : wr.heap.size = g := by simpa [Value.ownBlock] using hm
            rw [← this, hb] at hg
            cases hg)
        go_region_law (first
          | (refine step_appB _ rfl (.tmp 36) (.tmp 37) rfl w.heap.size p' c' n' R w3.heap.size 1 (by simp [Act.eval, Act.put]) (by exact own_kept HJ.out.2.2.1 HW0.out.1 (by simp)) (by simp [Act.eval, Act.put]) (by exact HW0.out.2.1) (by have := HJ.out.2.2.2.2.1; omega) (by exact (HJ.out.2.2.2.1.trans' HW0.out.1).size) ?_
             intro p4 c4 w4 own4 k4
             have H4 : Hid (OwnL w.heap.size p4 c4 (n' + 1) (R ++ [1]) w4 ∧ Kept [] w w4 ∧ w4.heap[wr.heap.size]? = some (Obj.cells #[I ky, S vl, .bool false] 146 (0, 0)) ∧ w4.ownsRow (w4.heap.size) 5 1 (.slice none 0 0) 0 []) := Lib.hid ⟨own4, (HJ.out.2.2.2.1.trans' HW0.out.1).new k4 (by intro x hx; exact (own_lt HJ.out.2.2.1 x (by simpa using hx)).1), k4.at HW0.out.2.2 (by intro hm; have := (own_lt HJ.out.2.2.1 _ (by simpa using hm)).2; omega), ⟨rfl, .inl ⟨rfl, rfl⟩⟩⟩
             have f4 := cell_at H4.out.2.2.1 1
             simp only [List.getElem?_toArray, List.getElem?_cons_zero, List.getElem?_cons_succ] at f4
             clear own4 k4)
          | (refine step_appS _ rfl (.tmp 38) (.tmp 39) rfl w.heap.size p4 c4 (n' + 1) (R ++ [1]) kb (by simp [Act.eval, Act.put]) (by exact H4.out.1) (by simp [Act.eval, Act.put]) (by have := HJ.out; omega) (by exact H4.out.2.1.size) ?_
             intro p5 c5 w5 own5 k5
             have H5 : Hid (OwnL w.heap.size p5 c5 (n' + 1 + kb.length) (R ++ [1] ++ kb) w5 ∧ Kept [] w w5 ∧ w5.heap[wr.heap.size]? = some (Obj.cells #[I ky, S vl, .bool false] 146 (0, 0)) ∧ w5.ownsRow (w5.heap.size) 5 1 (.slice none 0 0) 0 []) := Lib.hid ⟨own5, (H4.out.2.1).new k5 (by intro x hx; exact (own_lt H4.out.1 x (by simpa using hx)).1), k5.at H4.out.2.2.1 (hsep.out _ _ _ _ _ H4.out.1 H4.out.2.2.1), ⟨rfl, .inl ⟨rfl, rfl⟩⟩⟩
             have f5 := cell_at H5.out.2.2.1 1
             simp only [List.getElem?_toArray, List.getElem?_cons_zero, List.getElem?_cons_succ] at f5
             clear own5 k5)
          | (refine step_appS _ rfl (.tmp 40) (.tmp 41) rfl w.heap.size p5 c5 (n' + 1 + kb.length) (R ++ [1] ++ kb) lb (by simp [Act.eval, Act.put]) (by exact H5.out.1) (by simp [Act.eval, Act.put]) (by have := HJ.out; omega) (by exact H5.out.2.1.size) ?_
             intro p6 c6 w6 own6 k6
             have H6 : Hid (OwnL w.heap.size p6 c6 (n' + 1 + kb.length + lb.length) (R ++ [1] ++ kb ++ lb) w6 ∧ Kept [] w w6 ∧ w6.heap[wr.heap.size]? = some (Obj.cells #[I ky, S vl, .bool false] 146 (0, 0)) ∧ w6.ownsRow (w6.heap.size) 5 1 (.slice none 0 0) 0 []) := Lib.hid ⟨own6, (H5.out.2.1).new k6 (by intro x hx; exact (own_lt H5.out.1 x (by simpa using hx)).1), k6.at H5.out.2.2.1 (hsep.out _ _ _ _ _ H5.out.1 H5.out.2.2.1), ⟨rfl, .inl ⟨rfl, rfl⟩⟩⟩
             have f6 := cell_at H6.out.2.2.1 1
             simp only [List.getElem?_toArray, List.getElem?_cons_zero, List.getElem?_cons_succ] at f6
             clear own6 k6)
          | (refine step_appS _ rfl (.tmp 42) (.tmp 44) rfl w.heap.size p6 c6 (n' + 1 + kb.length + lb.length) (R ++ [1] ++ kb ++ lb) vl (by simp [Act.eval, Act.put]) (by exact H6.out.1) (by simp [Act.eval, Act.put]) (by have := HJ.out; omega) (by exact H6.out.2.1.size) ?_
             intro p7 c7 w7 own7 k7
             have H7 : Hid (OwnL w.heap.size p7 c7 (n' + 1 + kb.length + lb.length + vl.length) (R ++ [1] ++ kb ++ lb ++ vl) w7 ∧ Kept [] w w7 ∧ w7.heap[wr.heap.size]? = some (Obj.cells #[I ky, S vl, .bool false] 146 (0, 0)) ∧ w7.ownsRow (w7.heap.size) 5 1 (.slice none 0 0) 0 []) := Lib.hid ⟨own7, (H6.out.2.1).new k7 (by intro x hx; exact (own_lt H6.out.1 x (by simpa using hx)).1), k7.at H6.out.2.2.1 (hsep.out _ _ _ _ _ H6.out.1 H6.out.2.2.1), ⟨rfl, .inl ⟨rfl, rfl⟩⟩⟩
             have f7 := cell_at H7.out.2.2.1 1
             simp only [List.getElem?_toArray, List.getElem?_cons_zero, List.getElem?_cons_succ] at f7
             clear own7 k7))
        all_goals
          go_wp2
          go_roundw
          case rel =>
            obtain ⟨htk, hch, own, kr, hRb, hpl4, hpl2, hvl⟩ := HJ.out
            refine ⟨j + 1, p7, c7, n' + 1 + kb.length + lb.length + vl.length, by omega, by go_num, rfl, ?_, H7.out.2.1⟩
            have e1 : chB ⟨ky, vl, false⟩ = (1 :: kb) ++ lb ++ vl := hch.trans (by simp)
            have e : R ++ ((1 :: kb) ++ lb ++ vl) = R ++ [1] ++ kb ++ lb ++ vl := by simp
            rw [htk, e1, e]
            exact H7.out.1
          case measure => simp [intOf]; omega
    · have hje : j = l.length := by omega
      subst hje
      rw [List.take_length] at own
      have hcv := conv_own own
      have HK := Lib.hid kr
      clear own kr HC HB
      go_wp2_with (fail)
      go_ret
      exact ⟨rfl, HK.out⟩
end Go.Proofs.YteplbljjlbdhaaaGreatDoor
