/- Walks and lemmas on the program of this seat, used by its statements; each theorem bears its own conditions. -/
import Derived.Test.YtncdfaocemfgfaaGreatDoorW32
import Derived.Handy
import Derived.OwnWalk
import Derived.Deep.AppendLies
import Derived.IntWalk
import Derived.Deep.CutRange
import Derived.Deep.RegionHeld3
import Derived.Deep.RegionLaw
import Derived.Shelf.Spec.SlicesInsertGrow
namespace Go.Proofs.YtncdfaocemfgfaaGreatDoor
open Go.RowKit
set_option linter.unusedVariables false
set_option linter.unusedSimpArgs false
set_option linter.unusedSectionVars false
open Go.RowKit
set_option linter.unusedVariables false
set_option linter.unusedSimpArgs false
set_option maxHeartbeats 8000000
set_option maxRecDepth 100000
theorem step_append_runI {ops : Array Oper} {o : Oper} {a : Act} {w : World} {K : Act → World → Prop} {Q : Exit → Act → World → Prop} {E : Prop}
    (hg : o.guard = none) (d x : Operand) (dT sT : TypeId) (hop : o.op = Op.call { callee := Callee.builtin Builtin.append, args := #[d, x], argTypes := #[dT, sT] })
    (v u : Value) (hd : a.eval d = v) (hx : a.eval x = u) {v' : Value} {w' : World} (hr : (Builtin.append_ #[dT, sT] o.type #[v, u]).run Tryz.prog w = .ok v' w') (hK : K (a.put o.dst v') w') :
    if Region.wanted o (yielded ops a.tmps) = true then Oper.wp Tryz.prog o a w K Q else E := by
  have hw : Region.wanted o (yielded ops a.tmps) = true := by simp [Region.wanted, hg]
  rw [if_pos hw]
  unfold Oper.wp
  simp [execOp, hop, resolve, invoke, builtin, hd, hx, hr, Result.andThen]
  exact hK
theorem run_append_sc (w : World) (t t' ty e : TypeId) (i : TypeInfo) (ht : Tryz.prog.underlying t = some (.slice e)) (hi : Tryz.prog.info? e = some i)
    (g sLen sCap : Nat) (a : Addr) (m c : Nat) (news : List Value) (hl : news.length = m * i.size) (hnews : ∀ j u, news[j]? = some u → w.cell? (a.add j) = some u) (h1 : ∀ u ∈ news, u.oneCell' = true)
    (hroom : sLen + m ≤ sCap) (hc : ∀ j, j < news.length → (w.cell? ⟨g, sLen * i.size + j, none⟩).isSome = true) (hf : ∀ j, j < news.length → w.frozen? ⟨g, sLen * i.size + j, none⟩ = false) :
    (Builtin.append_ #[t, t] ty #[.slice (some ⟨g, 0, none⟩) sLen sCap, .slice (some a) m c]).run Tryz.prog w =
      .ok (.slice (some ⟨g, 0, none⟩) (sLen + m) sCap) (w.setCells g (sLen * i.size) news) := by
  have hf' := run_firstCells_some (P := Tryz.prog) w i.size m a m c news hl hnews
  have hst := run_storeCells_cells (P := Tryz.prog) g (sLen * i.size) news 0 w (by simpa using hc) (by simpa using hf) h1
  simp only [Nat.add_zero] at hst
  simp [Builtin.append_, run_underlying ht, sizeOf, typeInfo, hi, Builtin.lenOf, hroom, hf', Addr.add_lit, hst]
theorem clear_ent (w : World) (ty : TypeId) (b o : Nat) (c : Nat) (hc : ∀ j, j < 2 → (w.cell? ⟨b, o + j, none⟩).isSome = true) (hf : ∀ j, j < 2 → w.frozen? ⟨b, o + j, none⟩ = false) :
    (Builtin.clear_ #[101] ty #[.slice (some ⟨b, o, none⟩) 1 c]).run Tryz.prog w = .ok (.tuple #[]) (w.setCells b o [S [], I 0]) := by
  have hv : ∀ w, (zeroValue 140).run Tryz.prog w = .ok (.agg #[S [], I 0]) w := fun w => by kernel_rfl
  have hst := run_storeCells_cells (P := Tryz.prog) b o [S [], I 0] 0 w (by simpa using hc) (by simpa using hf) (by intro v hv'; simp at hv'; rcases hv' with rfl | rfl <;> rfl)
  simp only [Nat.add_zero] at hst
  have hz : (Builtin.zeroCells (Value.agg #[S [], I 0]).cells 1).toList = [S [], I 0] := by simp [Builtin.zeroCells, Value.cells]; rfl
  simp [Builtin.clear_, run_underlying Tryz.underlying101, hv, hz, hst]
set_option maxHeartbeats 8000000 in
theorem edelete_any (w : World) (lo : Nat) (l : List En) (g c : Nat) (cur : Array Value) (hg : w.heap[g]? = some (.cells cur 140 (0, 0))) (hlog : lo ≤ g) (hcm : c ≤ maxLen) (hsz : cur.size = c * 2)
    (htk : cur.toList.take (l.length * 2) = enCells l) (i : Nat) (hi : i < l.length) (hc : l.length ≤ c) (hs : l.length ≤ 1000) :
    Calls Tryz.prog 103 #[.slice (some ⟨g, 0, none⟩) l.length c, I i, I (i + 1)] w fun e w' => (∃ v', e = .returned v' ∧ EnOwn w' lo v' (l.take i ++ l.drop (i + 1))) ∧ Kept [g] w w' := by
  obtain ⟨i0, hi0, hz0, hz1, hz2⟩ := info_parts ent_info
  obtain ⟨k, hk⟩ : ∃ k, l.length = k + 1 := ⟨l.length - 1, by omega⟩
  have hcell : ∀ j, j < (k + 1) * 2 → cur[j]? = (enCells l)[j]? := by
    intro j hj
    have := congrArg (fun l => l[j]?) htk
    rw [hk, List.getElem?_take_of_lt hj, Array.getElem?_toList] at this
    exact this
  have hlen : (enCells l).length = (k + 1) * 2 := by rw [enCells_len, hk]
  obtain ⟨CS, hCS⟩ : ∃ CS, enCells l = CS := ⟨_, rfl⟩
  have hone : ∀ u ∈ CS, u.oneCell' = true := by rw [← hCS]; exact enCells_one l
  have hfin : enCells (l.take i ++ l.drop (i + 1)) = CS.take (i * 2) ++ CS.drop ((i + 1) * 2) := by rw [enCells_append, ← enCells_take, ← enCells_drop, hCS]
  have hfl : (l.take i ++ l.drop (i + 1)).length = k := by simp; omega
  rw [hCS] at hcell hlen
  have hdl : (CS.drop ((i + 1) * 2)).length = (k - i) * 2 := by rw [List.length_drop, hlen]; omega
  obtain ⟨q, hq⟩ : ∃ q : Addr, q = if c = i + 1 then ⟨g, 0, none⟩ else ⟨g, (i + 1) * 2, none⟩ := ⟨_, rfl⟩
  have happ : ∀ ty, (Builtin.append_ #[101, 101] ty #[.slice (some ⟨g, 0, none⟩) i c, .slice (some q) (k - i) (c - (i + 1))]).run Tryz.prog w.drew = .ok (.slice (some ⟨g, 0, none⟩) k c) (w.drew.setCells g (i * 2) (CS.drop ((i + 1) * 2))) := fun ty => by
    have h := run_append_sc w.drew 101 101 ty 140 i0 Tryz.underlying101 hi0 g i c q (k - i) (c - (i + 1)) (CS.drop ((i + 1) * 2)) (by rw [hz1]; exact hdl)
      (fun j v hj => by
        have hj2 := (List.getElem?_eq_some_iff.1 hj).1
        rw [hq, if_neg (by omega), Addr.add_lit]
        show w.cell? _ = _
        rw [cell_at hg, hcell _ (by omega)]
        rwa [List.getElem?_drop] at hj)
      (fun v hv => hone v (List.mem_of_mem_drop hv)) (by omega)
      (fun j hj => by
        show (w.cell? _).isSome = true
        rw [cell_at hg, hz1, Array.getElem?_eq_getElem (by omega)]
        rfl) (fun j hj => free_at (w := w) hg _)
    rw [hz1, show i + (k - i) = k by omega] at h
    exact h
  obtain ⟨W1, hW1⟩ : ∃ W1, W1 = w.drew.setCells g (i * 2) (CS.drop ((i + 1) * 2)) := ⟨_, rfl⟩
  obtain ⟨cur1, r1, r2, r3, r4⟩ := setCells_row g 140 (CS.drop ((i + 1) * 2)) (i * 2) cur w.drew hg (by rw [hdl, hsz]; omega)
  rw [← hW1] at happ r1 r4
  have hcl : ∀ ty, (Builtin.clear_ #[101] ty #[.slice (some ⟨g, k * 2, none⟩) 1 (c - k)]).run Tryz.prog W1 = .ok (.tuple #[]) (W1.setCells g (k * 2) [S [], I 0]) := fun ty => clear_ent W1 ty g (k * 2) (c - k) (fun j hj => by rw [cell_at r1, Array.getElem?_eq_getElem (by omega)]; rfl) (fun j hj => free_at r1 _)
  obtain ⟨cur2, q1, q2, q3, q4⟩ := setCells_row g 140 [S [], I 0] (k * 2) cur1 W1 r1 (by rw [r2, hsz]; simp; omega)
  have FIN : Hid (EnOwn (W1.setCells g (k * 2) [S [], I 0]) lo (.slice (some ⟨g, 0, none⟩) k c) (l.take i ++ l.drop (i + 1)) ∧ Kept [g] w (W1.setCells g (k * 2) [S [], I 0])) := Lib.hid ⟨⟨enCells_len _, .inr ⟨g, c, cur2, by rw [hfl], hlog, q1, by rw [hfl]; omega, hcm, by rw [q2, r2, hsz], by
    rw [hfl, hfin]
    apply List.ext_getElem?
    intro j
    have htl : (CS.take (i * 2)).length = i * 2 := by rw [List.length_take, hlen]; omega
    by_cases hj : j < k * 2
    · rw [List.getElem?_take_of_lt hj, Array.getElem?_toList, q3, if_neg (by omega), r3, List.getElem?_append, htl]
      by_cases h1 : j < i * 2
      · rw [if_neg (by omega), if_pos h1, List.getElem?_take_of_lt h1, hcell _ (by omega)]
      · rw [if_neg h1, if_pos ⟨by omega, by rw [hdl]; omega⟩]
    · rw [List.getElem?_eq_none (by simp; omega), List.getElem?_eq_none (by simp [hlen]; omega)]⟩⟩, ((Kept.refl [g] w).drew).trans' (r4.trans' q4)⟩
  have HW1 := Lib.hid hW1
  have hiI : (i : Int) ≤ k := by omega
  have hiN : i ≤ k := by omega
  have hkI : (k : Int) ≤ 1000 := by omega
  have hcI : (k : Int) + 1 ≤ c := by omega
  have hcz : (c : Int) ≤ 9223372036854775807 := by unfold maxLen at hcm; omega
  have hne : ((i : Int) == (i : Int) + 1) = false := by simp; omega
  have hb1 : (0 : Int) ≤ (i : Int) + 1 := by omega
  have hb2 : ¬ (c = k) := by omega
  have hb5 : (i : Int) + 1 ≤ (k : Int) + 1 := by omega
  have hb6 : (i : Int) ≤ (k : Int) + 1 := by omega
  have hb7 : (k : Int) ≤ (k : Int) + 1 := by omega
  have hb8 : (i : Int) ≤ (i : Int) + 1 := by omega
  have hb9 : (i : Int) + 1 ≤ c := by omega
  have htn : ((i : Int) + 1).toNat = i + 1 := by omega
  have hb10 : (i : Int) ≤ c := by omega
  rw [hk] at *
  have hci : (k : Nat) + 1 ≤ c := by omega
  clear hcell hlen hfin hfl hdl hone hCS htk r1 r2 r3 r4 q1 q2 q3 q4 hg hk hsz hcm hlog hW1 hi hi0 hz0 hz1 hz2 hs hc
  by_cases hc1 : c = i + 1
  · rw [if_pos hc1] at hq
    subst hq
    have hki : i = k := by omega
    subst hki
    subst hc1
    simp only [Nat.sub_self] at happ
    simp only [Nat.add_sub_cancel_left] at hcl
    go_enter Tryz.func103, Tryz.ntmps103
    go_wp2_with (fail)
    go_region_law (refine step_append_runI rfl _ _ 101 101 rfl (.slice (some ⟨g, 0, none⟩) i (i + 1)) (.slice (some ⟨g, 0, none⟩) 0 0) (by simp [Act.eval, Act.put]) (by simp [Act.eval, Act.put]) (happ _) ?_)
    all_goals
      go_wp2_with (simp only [hcl])
      go_ret
      exact ⟨⟨_, rfl, FIN.out.1⟩, FIN.out.2⟩
  · rw [if_neg hc1] at hq
    subst hq
    go_enter Tryz.func103, Tryz.ntmps103
    go_wp2_with (fail)
    go_region_law (refine step_append_runI rfl _ _ 101 101 rfl (.slice (some ⟨g, 0, none⟩) i c) (.slice (some ⟨g, (i + 1) * 2, none⟩) (k - i) (c - (i + 1))) (by simp [Act.eval, Act.put]) (by simp [Act.eval, Act.put]) (happ _) ?_)
    all_goals
      go_wp2_with (simp only [hcl])
      go_ret
      exact ⟨⟨_, rfl, FIN.out.1⟩, FIN.out.2⟩
theorem own_block_of {w : World} {lo : Nat} {v : Value} {l : List En} (h : EnOwn w lo v l) : ∀ q ∈ v.ownBlock.toList, lo ≤ q ∧ q < w.heap.size := by
  intro q hq
  exact own_lt h q (by simpa using hq)
theorem einsert_any (w : World) (lo : Nat) (v : Value) (l : List En) (hv : EnOwn w lo v l) (i : Nat) (hi : i ≤ l.length) (x : En) (vb : Nat) (hx : w.heap[vb]? = some (.cells #[S x.1, I x.2] 140 (0, 0))) (hgv : ∀ q ∈ v.ownBlock.toList, q ≠ vb) (hlo : lo ≤ w.heap.size) (hs : l.length ≤ 1000) :
    Calls Tryz.prog 105 #[v, I i, .slice (some ⟨vb, 0, none⟩) 1 1] w fun e w' => (∃ v', e = .returned v' ∧ EnOwn w' lo v' (l.take i ++ x :: l.drop i)) ∧ Kept v.ownBlock.toList w w' := by
  by_cases hil : i = l.length
  · subst hil
    refine (einsert_end w lo v l hv x vb hx hlo hs _ rfl).mono ?_
    rintro e w1 h
    rw [List.take_length, List.drop_length]
    exact h
  · rcases hv.2 with ⟨_, h0⟩ | ⟨g, c, cur, rfl, hb, hg, hn, hc, hsz, ht⟩
    · exact absurd (by rw [h0] at hi ⊢; omega) hil
    · have hne : vb ≠ g := fun e => hgv g (by simp [Value.ownBlock]) e.symm
      have hT : (Value.slice (some ⟨g, 0, none⟩) l.length c).ownBlock.toList = [g] := rfl
      rw [hT]
      by_cases hr : l.length + 1 ≤ c
      · exact einsert_room w lo l g c cur hg hb hc hsz ht i (by omega) hr x vb hx hne hs
      · refine (einsert_grow w lo l g c cur hg hlo hsz ht i (by omega) hn (by omega) x vb hx hne hs).mono ?_
        rintro e w1 ⟨h1, h2⟩
        exact ⟨h1, h2.mono (by simp)⟩
theorem posE_ins {l : List En} (h : SortE l) (x : En) (hn : hasE l x.1 = false) : l.take (posE l x.1) ++ x :: l.drop (posE l x.1) = insE l x := by
  induction l with
  | nil => rfl
  | cons y t ih =>
    obtain ⟨h1, h2⟩ := List.pairwise_cons.1 h
    have hn2 : hasE t x.1 = false := by
      unfold hasE at hn ⊢
      simp only [List.any_cons, Bool.or_eq_false_iff] at hn
      exact hn.2
    unfold posE insE
    split
    · next hl =>
      rw [List.take_succ_cons, List.drop_succ_cons, List.cons_append, ih h2 hn2]
    · next hl =>
      rfl
/-- A name less. -/
def delE (l : List En) (t : Nm) : List En := l.filter fun x => decide (x.1 ≠ t)
theorem posE_del {l : List En} (h : SortE l) (t : Nm) (hn : hasE l t = true) : l.take (posE l t) ++ l.drop (posE l t + 1) = delE l t := by
  induction l with
  | nil => cases hn
  | cons y r ih =>
    obtain ⟨h1, h2⟩ := List.pairwise_cons.1 h
    by_cases hl : ltB y.1 t = true
    · have hne := ltB_ne hl
      have hn2 : hasE r t = true := by
        unfold hasE at hn ⊢
        simp only [List.any_cons, Bool.or_eq_true] at hn
        rcases hn with hn | hn
        · exact absurd (by simpa using hn) hne
        · exact hn
      unfold posE delE
      rw [if_pos hl, List.take_succ_cons, List.drop_succ_cons, List.cons_append, ih h2 hn2, List.filter_cons_of_pos (by simpa using hne)]
      rfl
    · have he : y.1 = t := by
        apply Decidable.byContradiction
        intro hne
        have hlt : ltB t y.1 = true := by
          rcases ltB_total hne with h3 | h3
          · exact absurd h3 hl
          · exact h3
        unfold hasE at hn
        simp only [List.any_cons, Bool.or_eq_true] at hn
        rcases hn with hn | hn
        · exact hne (by simpa using hn)
        · obtain ⟨z, hz, hze⟩ := List.any_eq_true.1 hn
          have hze : z.1 = t := by simpa using hze
          have := ltB_trans hlt (h1 z hz)
          rw [hze, ltB_irrefl] at this
          cases this
      unfold posE delE
      rw [if_neg hl, List.filter_cons_of_neg (by simpa using he)]
      simp only [List.take_zero, List.nil_append, List.drop_succ_cons, List.drop_zero]
      rw [List.filter_eq_self.2]
      intro z hz
      have := ltB_ne (h1 z hz)
      rw [he] at this
      simpa using fun e => this e.symm
theorem with_any (w : World) (v : Value) (l : List En) (hv : EnsAt w v l) (hs : SortE l) (hl : l.length ≤ 999) (t : Nm) (num : Nat) (hn : hasE l t = false) :
    Calls Tryz.prog 62 #[v, S t, I num] w fun e w' => (∃ v', e = .returned v' ∧ EnOwn w' w.heap.size v' (insE l (t, num))) ∧ Kept [] w w' := by
  have HE := Lib.hid (entered_any w v l hv hs (by omega) t)
  have HP := Lib.hid (posE_ins hs (t, num) hn)
  have HL := Lib.hid (And.intro (posE_le t l) hl)
  have HC := Lib.hid (fun W (k : Kept [] w W) => eclone_any W v l (hv.same k) (by omega))
  obtain ⟨p, c, b, rfl, _⟩ := hv
  clear hs hl hn
  go_enter Tryz.func62, Tryz.ntmps62
  go_wp2_with (fail)
  refine HE.out.mono ?_
  rintro e w1 ⟨rfl, k1⟩
  have K1 := Lib.hid k1
  clear k1
  go_wp2_with (fail)
  refine (HC.out _ K1.out).mono ?_
  rintro e w2 ⟨⟨v2, rfl, h2⟩, k2⟩
  have K2 := Lib.hid (And.intro h2 k2)
  clear h2 k2
  go_wp2_with (fail)
  refine (einsert_any _ w1.heap.size v2 l (own_kept (T := []) K2.out.1 ((Kept.refl [] w2).alloc _) (fun _ _ => by simp)) (posE l t) HL.out.1 (t, num) w2.heap.size (heap_new w2 _) (fun q hq => by have := (own_block_of K2.out.1 q hq).2; omega) (by rw [World.size_alloc]; have := K2.out.2.size; omega) (by have := HL.out.2; omega)).mono ?_
  rintro e w3 ⟨⟨v3, rfl, h3⟩, k3⟩
  have K3 := Lib.hid (And.intro h3 k3)
  clear h3 k3
  go_wp2_with (fail)
  go_ret
  obtain ⟨h3, k3⟩ := K3.out
  rw [HP.out] at h3
  have hw1 := K1.out.size
  refine ⟨⟨v3, rfl, h3.1, ?_⟩, (K1.out.trans' K2.out.2).new (((Kept.refl _ _).alloc _).trans' k3) (fun q hq => by have := (own_block_of K2.out.1 q hq).1; omega)⟩
  rcases h3.2 with h | ⟨g, c, cur, a1, a2, a3⟩
  · exact .inl h
  · exact .inr ⟨g, c, cur, a1, by omega, a3⟩
theorem without_any (w : World) (v : Value) (l : List En) (hv : EnsAt w v l) (hs : SortE l) (hl : l.length ≤ 999) (t : Nm) (hn : hasE l t = true) :
    Calls Tryz.prog 60 #[v, S t] w fun e w' => (∃ v', e = .returned v' ∧ EnOwn w' w.heap.size v' (delE l t)) ∧ Kept [] w w' := by
  have HE := Lib.hid (entered_any w v l hv hs (by omega) t)
  have HP := Lib.hid (posE_del hs t hn)
  have hlt : posE l t < l.length := by
    have h1 := hasE_pos hs (t := t)
    rw [hn] at h1
    rcases Nat.lt_or_ge (posE l t) l.length with h | h
    · exact h
    · rw [List.getElem?_eq_none h] at h1; cases h1
  have HL := Lib.hid (And.intro hlt hl)
  have HC := Lib.hid (fun W (k : Kept [] w W) => eclone_any W v l (hv.same k) (by omega))
  have hpI : (posE l t : Int) ≤ 1000 := by omega
  have hp0 : (0 : Int) ≤ (posE l t : Int) := by omega
  obtain ⟨p, c, b, rfl, _⟩ := hv
  clear hs hl hn hlt
  go_enter Tryz.func60, Tryz.ntmps60
  go_wp2_with (fail)
  refine HE.out.mono ?_
  rintro e w1 ⟨rfl, k1⟩
  have K1 := Lib.hid k1
  clear k1
  go_wp2_with (fail)
  refine (HC.out _ K1.out).mono ?_
  rintro e w2 ⟨⟨v2, rfl, h2⟩, k2⟩
  rcases h2.2 with ⟨_, h0⟩ | ⟨g, c2, cur, rfl, hb, hg, hnc, hc, hsz, ht⟩
  · have := HL.out.1; omega
  have K2 := Lib.hid (And.intro hb (And.intro hg (And.intro hnc (And.intro hc (And.intro hsz (And.intro ht k2))))))
  clear h2 k2 hb hg hnc hc hsz ht
  go_wp2_with (fail)
  obtain ⟨hb, hg, hnc, hc, hsz, ht, k2⟩ := K2.out
  refine (edelete_any _ w1.heap.size l g c2 cur hg hb hc hsz ht (posE l t) HL.out.1 hnc (by have := HL.out.2; omega)).mono ?_
  rintro e w3 ⟨⟨v3, rfl, h3⟩, k3⟩
  have K3 := Lib.hid (And.intro h3 k3)
  clear h3 k3 hb hg hnc hc hsz ht k2
  go_wp2_with (fail)
  go_ret
  obtain ⟨h3, k3⟩ := K3.out
  obtain ⟨hb, hg, hnc, hc, hsz, ht, k2⟩ := K2.out
  rw [HP.out] at h3
  have hw1 := K1.out.size
  refine ⟨⟨v3, rfl, h3.1, ?_⟩, (K1.out.trans' k2).new k3 (fun q hq => by simp at hq; omega)⟩
  rcases h3.2 with h | ⟨g, c, cur, a1, a2, a3⟩
  · exact .inl h
  · exact .inr ⟨g, c, cur, a1, by omega, a3⟩
end Go.Proofs.YtncdfaocemfgfaaGreatDoor
