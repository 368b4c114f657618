/- Walks and lemmas on the program of this seat, used by its statements; each theorem bears its own conditions. -/
import Derived.Test.YteplbljjlbdhaaaGreatDoorZ9
namespace Go.Proofs.YteplbljjlbdhaaaGreatDoor
open Go.RowKit
set_option linter.unusedVariables false
set_option linter.unusedSimpArgs false
set_option linter.unusedSectionVars false
set_option maxHeartbeats 16000000
set_option maxRecDepth 100000
theorem del_none {α : Type} (k : Int) : ∀ (M : List (Int × α)), findA M k = none → delA M k = M
 | [], _ => rfl
 | p :: t, h => by
  unfold findA at h
  split at h
  ·cases h
  ·next hne =>
   unfold delA
   rw [if_neg hne, del_none k t h]
theorem pagesO_pos (o : Ob) : 1 ≤ wO o := pages_pos _
theorem len_le_sum (M : OM) : M.length ≤ sumA wO M := by
 induction M with
 | nil => exact Nat.le_refl _
 | cons p t ih => have := pagesO_pos p.2; simp only [List.length_cons, sumA]; omega
def Vals256 (M : OM) : Prop := ∀ k o, findA M k = some o → o.val.length ≤ 256
theorem vals_take1 {M : OM} (hs : SortedA M) (h : Vals256 M) (s a : Nat) (c : Ch) (hc : c.val.length ≤ 256) : Vals256 (take1 s a M c) := by
 intro k o ho
 rw [take1_find hs] at ho
 split at ho
 ·split at ho
  ·cases ho
  ·cases ho; exact hc
 ·exact h k o ho
theorem step_del {P : Program} {ops : Array Oper} {o : Oper} {a : Act} {w : World} {K : Act → World → Prop} {Q : Exit → Act → World → Prop} {E : Prop} (hg : o.guard = none) (m x : Operand) (t k : TypeId)
  (hop : o.op = Op.call { callee := Callee.builtin Builtin.delete, args := #[m, x], argTypes := #[t, k] }) {mv xv : Value} (hm : a.eval m = mv) (hx : a.eval x = xv) {w' : World} (hrun : ∀ ty, (Builtin.delete_ #[t, k] ty #[mv, xv]).run P w = .ok (.tuple #[]) w')
  (hK : K (a.put o.dst (.tuple #[])) w') : if Region.wanted o (yielded ops a.tmps) = true then Oper.wp P o a w K Q else E := by
 have hw : Region.wanted o (yielded ops a.tmps) = true := by simp [Region.wanted, hg]
 rw [if_pos hw]
 unfold Oper.wp
 simp [execOp, hop, resolve, invoke, builtin, hm, hx, hrun, Result.andThen]
 exact hK
theorem AMapAt.drop' {α : Type} {R : Value → Option (DataW Unit × List MemPlace)} {enc : α → DataW Unit} {w : World} {b : Nat} {M : List (Int × α)} (h : AMapAt R enc w b M) {t e : TypeId} (ht : Tryz.prog.underlying t = some (.map 3 e)) {k : Int} (hk : I64 k) :
  ∃ w', (∀ ty, (Builtin.delete_ #[t, 3] ty #[.map (some b), I k]).run Tryz.prog w = .ok (.tuple #[]) w') ∧ AMapAt R enc w' b (delA M k) ∧ Kept [b] w w' := by
 obtain ⟨w', h1, h2, h3⟩ := h.drop ht hk 0
 exact ⟨w', fun ty => h1, h2, h3⟩
theorem takes_any (w : World) (sb pb lb mb kb : Nat) (M : OM) (C : List (Int × Nat)) (h : CoreAt w sb pb lb mb kb (sumA wO M) M C) (l : List Ch) (v : Value) (hv : ChsAt w v l) (hvq : ∀ q, v.ownBlock = some q → q ∉ [sb, mb, kb]) (hl : l.length ≤ 1000) (hk : ∀ c ∈ l, 1 ≤ c.key ∧ c.key ≤ 2147483647 ∧ c.val.length ≤ 256)
  (hM : Vals256 M) (hx : sumA wO M ≤ 100000) (seg pos : Nat) (hseg : seg ≤ 1000000000000) (hpos : (findA C seg).getD 0 = pos) (hpos2 : pos ≤ 1000000) (hC : C.length ≤ 1000) :
  Calls Tryz.prog 151 #[Ptr sb, v, I seg] w fun e w' => e = .returned (.tuple #[]) ∧ CoreAt w' sb pb lb mb kb (sumA wO (takesF M l seg pos)) (takesF M l seg pos) (insA (delA C seg) seg (pos + 1)) ∧ Kept [sb, mb, kb] w w' := by
 have hi : I64 (seg : Int) := ⟨by omega, by omega⟩
 have hlk := h.ct.look Tryz.underlying138 (z := 0) (val := ctV) (ct_zero w) (ctR_mk 0) ctR_inv hi
 obtain ⟨c0, c1, c2, c3, c4, c5⟩ := h.cells
 obtain ⟨W1, hW1⟩ : ∃ W1, w.alloc (Obj.cells #[I seg, I pos] 174) = W1 := ⟨_, rfl⟩
 have k1 : Kept [] w W1 := by rw [← hW1]; exact (Kept.refl [] w).alloc _
 have hnw : W1.heap[w.heap.size]? = some (.cells #[I seg, I pos] 174 (0, 0)) := by rw [← hW1]; exact heap_new w _
 have h1 := h.same k1
 have hlk1 := h1.ct.look Tryz.underlying138 (z := 0) (val := ctV) (ct_zero _) (ctR_mk 0) ctR_inv hi
 rw [hpos] at hlk hlk1
 have hlka : (Instr.lookup 138 (.map (some kb)) (I seg) false).run Tryz.prog w = .ok (I pos) w := hlk
 have hlkb : (Instr.lookup 138 (.map (some kb)) (I seg) false).run Tryz.prog W1 = .ok (I pos) W1 := hlk1
 obtain ⟨w1, hup, hct1, kc1⟩ := h1.ct.store Tryz.underlying138 (by unfold maxLen; omega) hi (v := I ((pos : Int) + 1)) (o := pos + 1) (ps := []) rfl
 have hcore1 := h1.setC kc1 hct1
 have hq0 : w.heap.size ≠ kb := fun e => by have := h.ct.lt; omega
 have hnw1 := kc1.at hnw (by simpa using hq0)
 have kall : Kept [sb, mb, kb] w w1 := (k1.mono (by simp)).trans' (kc1.mono (by simp))
 obtain ⟨q0, hq0e⟩ : ∃ q0, w.heap.size = q0 := ⟨_, rfl⟩
 have hq0lt : q0 ∉ [sb, mb, kb] := by
  have := h.lt
  have := h.ob.lt
  have := h.ct.lt
  simp; omega
 rw [hq0e] at hnw hnw1
 have H1 := Lib.hid (And.intro hcore1 (And.intro hnw1 kall))
 obtain ⟨d0, d1, d2, d3, d4, d5⟩ := h1.cells
 have hv1 := hv.kept kall hvq
 obtain ⟨p, c, b, o, rfl, hp, hc⟩ := hv1
 have hlI : (l.length : Int) ≤ 1000 := by omega
 have hposI : (pos : Int) ≤ 1000000 := by omega
 have hsegI : (seg : Int) ≤ 1000000000000 := by omega
 have HC := Lib.hid (And.intro hc (And.intro hp (And.intro hk (And.intro hvq hq0lt))))
 have HX := Lib.hid (And.intro hM (And.intro hx (And.intro hpos hC)))
 have hw7 : ∀ n : Nat, n ≤ 256 → pagesF (7 + n) ≤ 7 := by intro n hn; unfold pagesF; split <;> omega
 have HW := Lib.hid hw7
 clear hc hp hk hvq hq0lt hM hx hC hw7 hlk hlk1 hcore1 hnw1 kall h1 hct1 kc1 k1 hnw h hv hq0 hpos
 go_enter Tryz.func151, Tryz.ntmps151
 go_wp2_with (fail)
 clear c0 c1 c2 c3 c4 c5 d0 d1 d2 d3 d4 d5 hlka hlkb hup hW1
 go_loopw [28] (fun i wr => ∃ j : Nat, j ≤ l.length ∧ i = I j ∧ CoreAt wr sb pb lb mb kb (sumA wO (takesF M (l.take j) seg pos)) (takesF M (l.take j) seg pos) (insA (delA C seg) seg (pos + 1)) ∧ Vals256 (takesF M (l.take j) seg pos) ∧ sumA wO (takesF M (l.take j) seg pos) ≤ 100000 + 7 * j ∧ wr.heap[q0]? = some (.cells #[I seg, I pos] 174 (0, 0)) ∧ Kept [sb, mb, kb] w wr ∧ Kept [sb, mb, kb] w1 wr) (fun i _ => l.length - (intOf i).toNat)
 case atStart => exact ⟨0, by omega, rfl, H1.out.1, HX.out.1, by have := HX.out.2.1; show sumA wO M ≤ _; omega, H1.out.2.1, H1.out.2.2, Kept.refl _ _⟩
 case round =>
  obtain ⟨j, hj, rfl, hcore, hvals, hsum, hpl, kr, kr1⟩ := hrel
  by_cases hlt : j < l.length
  ·obtain ⟨hc, hp, hk, hvq, hq0lt⟩ := HC.out
   have hpe := hp (by intro h; subst h; simp at hlt)
   subst hpe
   have hbq := hvq b rfl
   have hltI : (j : Int) < l.length := by omega
   obtain ⟨d0, d1, d2⟩ := hc j hlt
   have e0 := (kr1.cell (p := ⟨b, o + j * 3, none⟩) (World.block_lt_of_cell? w1 _ d0) hbq).trans d0
   have e1 := (kr1.cell (p := ⟨b, o + j * 3 + 1, none⟩) (World.block_lt_of_cell? w1 _ d1) hbq).trans d1
   have e2 := (kr1.cell (p := ⟨b, o + j * 3 + 2, none⟩) (World.block_lt_of_cell? w1 _ d2) hbq).trans d2
   obtain ⟨⟨ky, vl, dr⟩, hx⟩ : ∃ x, l[j] = x := ⟨_, rfl⟩
   obtain ⟨hk1, hk2, hk3⟩ := hk l[j] (List.getElem_mem hlt)
   have htk : takesF M (l.take (j + 1)) seg pos = take1 seg pos (takesF M (l.take j) seg pos) ⟨ky, vl, dr⟩ := by
    rw [List.take_add_one, List.getElem?_eq_getElem hlt, hx]
    unfold takesF
    rw [List.foldl_append]
    rfl
   rw [hx] at e0 e1 e2 hk1 hk2 hk3
   simp only at e0 e1 e2 hk1 hk2 hk3
   obtain ⟨N, hN⟩ : ∃ N, takesF M (l.take j) seg pos = N := ⟨_, rfl⟩
   rw [hN] at hcore hvals hsum htk
   have hvI : (vl.length : Int) ≤ 256 := by omega
   have hkx := (Kept.refl [] wr).alloc (Obj.cells #[I ky, S vl, .bool dr] 146)
   have hnw := heap_new wr (Obj.cells #[I ky, S vl, .bool dr] 146)
   obtain ⟨W1, hW1⟩ : ∃ W1, wr.alloc (Obj.cells #[I ky, S vl, .bool dr] 146) = W1 := ⟨_, rfl⟩
   obtain ⟨q, hq⟩ : ∃ q, wr.heap.size = q := ⟨_, rfl⟩
   have hqn : q ∉ [sb, mb, kb] := by
    have := hcore.lt
    have := hcore.ob.lt
    have := hcore.ct.lt
    simp; omega
   have hqs : W1.heap.size = q + 1 := by rw [← hW1, World.size_alloc, hq]
   go_upto_region 5 with (fail)
   rw [hW1] at hkx hnw
   rw [hq] at hnw
   have hc1 := hcore.same hkx
   have hpl1 := hkx.at hpl (by simp)
   have g0 := cell_at hnw 0
   simp only [List.getElem?_toArray, List.getElem?_cons_zero, List.getElem?_cons_succ] at g0
   have HRL := Lib.hid (And.intro hc1 (And.intro hpl1 (And.intro hnw (And.intro hvals (And.intro hsum (And.intro htk (And.intro (kr.trans' (hkx.mono (by simp))) (And.intro (kr1.trans' (hkx.mono (by simp))) (And.intro hqn (And.intro hqs hN))))))))))
   have HCL := Lib.hid (fun W (k : Kept [] W1 W) => (hc1.same k).cells)
   obtain ⟨s0, s1, s2, s3, s4, s5⟩ := HCL.out W1 (Kept.refl _ _)
   clear hcore hvals hsum htk hpl kr kr1 hkx hc hp hk d0 d1 d2 e0 e1 e2 hx hW1 hq hnw hc1 hpl1 hvq hq0lt hbq hqn hqs hN
   obtain ⟨q2, hq2⟩ : ∃ q2, W1.heap.size = q2 := ⟨_, rfl⟩
   obtain ⟨W2, hW2⟩ : ∃ W2, (W1.alloc (Obj.cells #[S [], I 0, I 0] 176)).drew = W2 := ⟨_, rfl⟩
   have hW3 : W1.drew.alloc (Obj.cells #[S [], I 0, I 0] 176) = W2 := hW2
   have k12 : Kept [] W1 W2 := by rw [← hW2]; exact ((Kept.refl [] W1).alloc _).drew
   have hb2 : W2.heap[q2]? = some (.cells #[S [], I 0, I 0] 176 (0, 0)) := by rw [← hW2, ← hq2]; exact heap_new W1 _
   have k1d := (Kept.refl [] W1).drew
   obtain ⟨t0, t1, t2, t3, t4, t5⟩ := HCL.out W2 k12
   obtain ⟨td0, td1, td2, td3, td4, td5⟩ := HCL.out W1.drew k1d
   have u0 := k12.cellOf g0
   have u0d := k1d.cellOf g0
   obtain ⟨ov, os, op, is, hov, hlook, hlookd⟩ : ∃ (ov : List UInt8) (os op : Nat) (is : Bool), ((findA N ky = none ∧ is = false ∧ ov = []) ∨ (findA N ky = some ⟨ov, os, op⟩ ∧ is = true)) ∧ (Instr.lookup 137 (.map (some mb)) (I ky) true).run Tryz.prog W2 = .ok (.tuple #[.agg #[S ov, I os, I op], .bool is]) W2 ∧ (Instr.lookup 137 (.map (some mb)) (I ky) true).run Tryz.prog W1.drew = .ok (.tuple #[.agg #[S ov, I os, I op], .bool is]) W1.drew := by
    cases hfo : findA N ky with
    | none => exact ⟨[], 0, 0, false, .inl ⟨rfl, rfl, rfl⟩, (HRL.out.1.same k12).find_none (i64_key hk1 hk2) hfo, (HRL.out.1.same k1d).find_none (i64_key hk1 hk2) hfo⟩
    | some ob => exact ⟨ob.val, ob.seg, ob.pos, true, .inr ⟨rfl, rfl⟩, (HRL.out.1.same k12).find_some (i64_key hk1 hk2) hfo, (HRL.out.1.same k1d).find_some (i64_key hk1 hk2) hfo⟩
   have HOV := Lib.hid hov
   have HB2 := Lib.hid (And.intro hb2 k12)
   have HQ2 := Lib.hid hq2
   have hf2 := free_at hb2
   have z0 := cell_at hb2 0
   have z1 := cell_at hb2 1
   have z2 := cell_at hb2 2
   simp only [List.getElem?_toArray, List.getElem?_cons_zero, List.getElem?_cons_succ] at z0 z1 z2
   clear hov k12 k1d hb2
   go_cut [9, 10] from 32 to 41 (fun v9 v10 wx => v9 = Ptr q2 ∧ v10 = .bool is ∧ wx.heap[q2]? = some (.cells #[S ov, I os, I op] 176 (0, 0)) ∧ Kept [] W1 wx)
   case first =>
    go_region
    all_goals
     go_wp2
     go_meet
     exact ⟨rfl, rfl, store3 HB2.out.1 _ _ _, ((HB2.out.2.setCell (.inr (by have := HQ2.out; show W1.heap.size ≤ q2; omega)) _).setCell (.inr (by have := HQ2.out; show W1.heap.size ≤ q2; omega)) _).setCell (.inr (by have := HQ2.out; show W1.heap.size ≤ q2; omega)) _⟩
   case rest =>
   obtain ⟨rfl, rfl, hbw, kw⟩ := hcut
   have HQ := Lib.hid (And.intro hbw (And.intro (kw.at HRL.out.2.2.1 (by simp)) (And.intro (kw.at HRL.out.2.1 (by simp)) (And.intro (HRL.out.1.same kw) kw))))
   have HNQ : Hid (q2 ∉ [sb, mb, kb]) := Lib.hid (by
    have := HRL.out.1.lt
    have := HRL.out.1.ob.lt
    have := HRL.out.1.ct.lt
    have := HQ2.out
    simp; omega)
   have HCE := Lib.hid (fun W (k : Kept [sb, mb, kb] wc W) => And.intro (cell_at (k.at HQ.out.1 HNQ.out) 0) (And.intro (cell_at (k.at HQ.out.2.1 HRL.out.2.2.2.2.2.2.2.2.1) 0) (And.intro (cell_at (k.at HQ.out.2.1 HRL.out.2.2.2.2.2.2.2.2.1) 1) (And.intro (cell_at (k.at HQ.out.2.1 HRL.out.2.2.2.2.2.2.2.2.1) 2) (And.intro (cell_at (k.at HQ.out.2.2.1 HC.out.2.2.2.2) 0) (cell_at (k.at HQ.out.2.2.1 HC.out.2.2.2.2) 1))))))
   simp only [List.getElem?_toArray, List.getElem?_cons_zero, List.getElem?_cons_succ] at HCE
   clear hbw kw g0 t0 t1 t2 t3 t4 t5 td0 td1 td2 td3 td4 td5 s0 s1 s2 s3 s4 s5 u0 u0d hlook hlookd z0 z1 z2 hf2 hW2 hW3 hq2
   have HD := Lib.hid (And.intro hk1 (And.intro hk2 hk3))
   have hsumI : (sumA wO N : Int) ≤ 200000 := by have := HRL.out.2.2.2.2.1; omega
   obtain ⟨X, hX⟩ : ∃ X, sumA wO N = X := ⟨_, rfl⟩
   rw [hX] at hsumI
   obtain ⟨old, hold⟩ : ∃ old, oldW N ⟨ky, vl, dr⟩ = old := ⟨_, rfl⟩
   have hdelsum := sum_del wO ky N
   have holdle : old ≤ X := by
    rw [← hold, ← hX, ← hdelsum]
    show ((findA N ky).map wO).getD 0 ≤ _
    omega
   have hdel2 : sumA wO (delA N ky) = X - old := by
    have : ((findA N ky).map wO).getD 0 = old := hold
    omega
   have HOLD := Lib.hid (And.intro hX (And.intro hold (And.intro holdle hdel2)))
   clear hdelsum holdle hdel2 hk1 hk2 hk3 hX hold
   obtain ⟨C', hC'⟩ : ∃ C', insA (delA C seg) seg (pos + 1) = C' := ⟨_, rfl⟩
   have HQ4 := HQ.out.2.2.2.1
   rw [hC', HOLD.out.1] at HQ4
   have HQC := Lib.hid HQ4
   have HCC := Lib.hid hC'
   clear HQ4 hC'
   go_upto_if 42 with (fail)
   go_cut [] from 43 to 59 (fun wx => CoreAt wx sb pb lb mb kb ((X - old : Nat) : Int) (delA N ky) C' ∧ Kept [sb, mb, kb] wc wx)
   case first =>
    cases is with
    | false =>
     have hfo : findA N ky = none := by
      rcases HOV.out with ⟨h, _⟩ | ⟨_, h⟩
      ·exact h
      ·cases h
     have hmm : delA N ky = N := del_none ky N hfo
     have hoo : old = 0 := by rw [← HOLD.out.2.1]; unfold oldW; simp [hfo]
     have HM := Lib.hid (And.intro hmm hoo)
     clear hfo hmm hoo
     go_wp2_with (fail)
     go_meet
     refine ⟨?_, Kept.refl _ _⟩
     rw [HM.out.1, HM.out.2]
     exact HQC.out
    | true =>
     have hfo : findA N ky = some ⟨ov, os, op⟩ := by
      rcases HOV.out with ⟨_, h, _⟩ | ⟨h, _⟩
      ·cases h
      ·exact h
     have hovl : ov.length ≤ 256 := HRL.out.2.2.2.1 _ _ hfo
     have hwo : pagesF (7 + ov.length) = old := by rw [← HOLD.out.2.1]; unfold oldW; simp only [hfo]; rfl
     have HWO := Lib.hid (fun W => weight_any ov.length hovl W)
     rw [hwo] at HWO
     have hovI : (ov.length : Int) ≤ 256 := by omega
     have hoI : (old : Int) ≤ X := by have := HOLD.out.2.2.1; omega
     have hwr : IntKind.i64.wrap ((X : Int) - old) = ((X - old : Nat) : Int) := by have := HOLD.out.2.2.1; rw [IntKind.wrap_i64]; omega
     have HKM : Hid (I64 ky) := Lib.hid (i64_key HD.out.1 HD.out.2.1)
     clear hfo hovl hwo
     obtain ⟨t0, t1, t2, t3, t4, t5⟩ := (HQC.out.same (Kept.refl [] wc).drew).cells
     obtain ⟨o0, _, _, _, _, _⟩ := HCE.out wc.drew ((Kept.refl _ wc).drew)
     have hfr : ∀ i, wc.drew.frozen? ⟨sb, i, none⟩ = false := (HQC.out.same (Kept.refl [] wc).drew).free
     go_upto_region 7 with (fail)
     go_cut [] from 43 to 53 (fun wx => CoreAt wx sb pb lb mb kb ((X - old : Nat) : Int) N C' ∧ Kept [sb, mb, kb] wc wx)
     case first =>
      go_region_with (first
       | (go_at_call 142; (with_reducible refine (HWO.out _).mono ?_); rintro e w5 ⟨rfl, rfl⟩))
      all_goals
       go_wp2
       go_meet
       exact ⟨((HQC.out.setW _).same (Kept.refl [] _).drew), ((Kept.refl _ _).setCell (.inl (by simp)) _).drew⟩
     case rest =>
     obtain ⟨hcW, hkW⟩ := hcut
     have hcd := hcW.same (Kept.refl [] wc).drew
     obtain ⟨w6, hdel, hob6, kdel⟩ := hcd.ob.drop' Tryz.underlying137 HKM.out
     have HCW := Lib.hid (And.intro hcd (And.intro hob6 (And.intro kdel hkW)))
     clear t0 t1 t2 t3 t4 t5 o0 hfr
     obtain ⟨t0, t1, t2, t3, t4, t5⟩ := hcd.cells
     obtain ⟨_, r0, _, _, _, _⟩ := HCE.out wc.drew (hkW.trans' (Kept.refl _ _).drew)
     clear hcW hkW hcd hob6 kdel
     go_upto_region 8 with (fail)
     go_region_law (refine step_del rfl (.tmp 57) (.tmp 59) 137 3 rfl (by simp [Act.eval, Act.put]) (by simp [Act.eval, Act.put]) hdel ?_)
     all_goals
      go_wp2
      go_meet
      exact ⟨HCW.out.1.setM HCW.out.2.2.1 HCW.out.2.1, HCW.out.2.2.2.trans' ((Kept.refl _ _).drew.trans' (HCW.out.2.2.1.mono (by simp)))⟩
   case rest =>
   obtain ⟨hcW, hkW⟩ := hcut
   have HCW := Lib.hid (And.intro hcW hkW)
   obtain ⟨_, _, _, r2, _, _⟩ := HCE.out wc hkW
   clear hcW hkW
   have HT1 : Hid (take1 seg pos N ⟨ky, vl, true⟩ = delA N ky ∧ take1 seg pos N ⟨ky, vl, false⟩ = insA (delA N ky) ky ⟨vl, seg, pos⟩ ∧ sumA wO (insA (delA N ky) ky ⟨vl, seg, pos⟩) = (X - old) + wF vl) := Lib.hid ⟨rfl, rfl, by rw [sum_ins, HOLD.out.2.2.2]; rfl⟩
   have HREL : Hid (∀ W : World, CoreAt W sb pb lb mb kb (sumA wO (take1 seg pos N ⟨ky, vl, dr⟩)) (take1 seg pos N ⟨ky, vl, dr⟩) C' → Kept [sb, mb, kb] wc W → CoreAt W sb pb lb mb kb (sumA wO (takesF M (l.take (j + 1)) seg pos)) (takesF M (l.take (j + 1)) seg pos) (insA (delA C seg) seg (pos + 1)) ∧ Vals256 (takesF M (l.take (j + 1)) seg pos) ∧ sumA wO (takesF M (l.take (j + 1)) seg pos) ≤ 100000 + 7 * (j + 1) ∧ W.heap[q0]? = some (.cells #[I seg, I pos] 174 (0, 0)) ∧ Kept [sb, mb, kb] w W ∧ Kept [sb, mb, kb] w1 W) := Lib.hid (by
    intro W b1 b2
    obtain ⟨a1, a2, a3, a4, a5, a6, a7, a8, a9, a10, a11⟩ := HRL.out
    have kk := HQ.out.2.2.2.2
    have kf := (kk.mono (by simp : ∀ x ∈ [], x ∈ [sb, mb, kb])).trans' (HCW.out.2.trans' b2)
    have hbnd : wF vl ≤ 7 := HW.out vl.length HD.out.2.2
    refine ⟨?_, ?_, ?_, ?_, a7.trans' kf, a8.trans' kf⟩
    ·rw [a6, HCC.out]; exact b1
    ·rw [a6]; exact vals_take1 a1.ob.srt a4 seg pos _ HD.out.2.2
    ·rw [a6]
     have := take1_sum wO a1.ob.srt seg pos ⟨ky, vl, dr⟩
     have h1 : wO ⟨vl, seg, pos⟩ = wF vl := rfl
     simp only at this
     split at this <;> omega
    ·exact (HCW.out.2.trans' b2).at HQ.out.2.2.1 HC.out.2.2.2.2)
   cases dr with
   | true =>
    have HE := Lib.hid (HREL.out wc (by rw [HT1.out.1, HOLD.out.2.2.2]; exact HCW.out.1) (Kept.refl _ _))
    go_wp2_with (fail)
    go_roundw
    case rel => exact ⟨j + 1, by omega, by go_num, HE.out⟩
    case measure => simp [intOf]; omega
   | false =>
    have hwv : wF vl ≤ 7 := HW.out vl.length HD.out.2.2
    obtain ⟨wv, hwve⟩ : ∃ wv, wF vl = wv := ⟨_, rfl⟩
    have HWV := Lib.hid (fun W => weight_any vl.length HD.out.2.2 W)
    have hwve2 : pagesF (7 + vl.length) = wv := hwve
    rw [hwve2] at HWV
    rw [hwve] at hwv
    have hwvI : (wv : Int) ≤ 7 := by omega
    have HWE := Lib.hid hwve
    obtain ⟨Y, hY⟩ : ∃ Y, X - old = Y := ⟨_, rfl⟩
    rw [hY] at HCW HT1
    have hYI : (Y : Int) ≤ 200000 := by omega
    have hwr : IntKind.i64.wrap ((Y : Int) + wv) = (Y : Int) + wv := by rw [IntKind.wrap_i64]; omega
    have HKM : Hid (I64 ky) := Lib.hid (i64_key HD.out.1 HD.out.2.1)
    clear hwve hwve2 hwv hY
    obtain ⟨t0, t1, t2, t3, t4, t5⟩ := (HCW.out.1.same (Kept.refl [] wc).drew).cells
    obtain ⟨_, _, r1, _, _, _⟩ := HCE.out wc.drew (HCW.out.2.trans' (Kept.refl _ _).drew)
    have hfr : ∀ i, wc.drew.frozen? ⟨sb, i, none⟩ = false := (HCW.out.1.same (Kept.refl [] wc).drew).free
    go_upto_region 10 with (fail)
    go_cut [] from 63 to 73 (fun wx => CoreAt wx sb pb lb mb kb ((Y : Int) + wv) (delA N ky) C' ∧ Kept [sb, mb, kb] wc wx)
    case first =>
     go_region_with (first
      | (go_at_call 142; (with_reducible refine (HWV.out _).mono ?_); rintro e w5 ⟨rfl, rfl⟩))
     all_goals
      go_wp2
      go_meet
      exact ⟨((HCW.out.1.setW _).same (Kept.refl [] _).drew), ((Kept.refl _ _).setCell (.inl (by simp)) _).drew⟩
    case rest =>
    obtain ⟨hcW, hkW⟩ := hcut
    have hcd := hcW.same (Kept.refl [] wc).drew
    have hlen : (delA N ky).length < maxLen := by
     have := len_le_sum (delA N ky)
     have := HOLD.out.2.2.2
     unfold maxLen
     omega
    obtain ⟨w6, hupd, hob6, kupd⟩ := hcd.ob.store Tryz.underlying137 hlen HKM.out (v := .agg #[S vl, I seg, I pos]) (o := ⟨vl, seg, pos⟩) (ps := []) rfl
    have hdd : delA (delA N ky) ky = delA N ky := del_none ky _ (by rw [find_del (by have := HRL.out.1.ob.srt; exact this), if_pos rfl])
    rw [hdd] at hob6
    have HC6 := Lib.hid (And.intro hcd (And.intro hob6 (And.intro kupd (hkW.trans' (Kept.refl _ _).drew))))
    clear t0 t1 t2 t3 t4 t5 r1 hfr
    obtain ⟨t0, t1, t2, t3, t4, t5⟩ := hcd.cells
    obtain ⟨_, r0, r1, _, p0, p1⟩ := HCE.out wc.drew (HCW.out.2.trans' (hkW.trans' (Kept.refl _ _).drew))
    have HE := Lib.hid (HREL.out w6 (by
     rw [HT1.out.2.1, HT1.out.2.2, HWE.out]
     exact HC6.out.1.setM HC6.out.2.2.1 HC6.out.2.1) (HC6.out.2.2.2.trans' (HC6.out.2.2.1.mono (by simp))))
    clear hcW hkW hcd hob6 kupd hlen hdd
    go_upto_region 11 with (fail)
    go_region
    all_goals
     go_wp2
     go_roundw
     case rel => exact ⟨j + 1, by omega, by go_num, HE.out⟩
     case measure => simp [intOf]; omega
  ·have hje : j = l.length := by omega
   subst hje
   rw [List.take_length] at hcore
   have HF := Lib.hid (And.intro hcore kr)
   clear hcore kr kr1 hpl hvals hsum
   go_wp2_with (fail)
   go_end0
   exact ⟨rfl, HF.out.1, HF.out.2⟩
theorem pages14_any (n : Nat) (hn : n ≤ 400) (w : World) : Calls Tryz.prog 136 #[I n] w fun e w' => e = .returned (I (pagesF n)) ∧ w' = w := by
 have hnI : (n : Int) ≤ 400 := by omega
 by_cases h : n ≤ 60
 ·have hI : (n : Int) ≤ 60 := by omega
  have HP : Hid (pagesF n = 1) := Lib.hid (by unfold pagesF; rw [if_pos h])
  clear h
  go_enter Tryz.func136, Tryz.ntmps136
  go_wp2_with (fail)
  go_ret
  exact ⟨by rw [HP.out]; rfl, rfl⟩
 ·have hI : decide ((n : Int) ≤ 60) = false := decide_eq_false (by omega)
  have hI2 : (60 : Int) < n := by omega
  have HP : Hid (pagesF n = 1 + (n + 2) / 63) := Lib.hid (by unfold pagesF; rw [if_neg h])
  have HV : Hid ((1 : Int) + ((n : Int) - 60 + 62) / 63 = (1 + (n + 2) / 63 : Nat)) := Lib.hid (by omega)
  clear h
  go_enter Tryz.func136, Tryz.ntmps136
  go_wp2_with (fail)
  go_ret
  exact ⟨by rw [HP.out, ← HV.out]; rfl, rfl⟩
theorem rweight_any (n : Nat) (hn : n ≤ 256) (w : World) : Calls Tryz.prog 106 #[I n] w fun e w' => e = .returned (I (pagesF (7 + n))) ∧ w' = w := by
 have hnI : (n : Int) ≤ 256 := by omega
 have HP := Lib.hid (pages14_any (7 + n) (by omega) w)
 have h7 : (7 : Int) + n = (7 + n : Nat) := by omega
 obtain ⟨N, hN⟩ : ∃ N, 7 + n = N := ⟨_, rfl⟩
 rw [hN] at HP h7 ⊢
 clear hN
 go_enter Tryz.func106, Tryz.ntmps106
 go_wp2_with (fail)
 refine HP.out.mono ?_
 rintro e w1 ⟨rfl, rfl⟩
 go_wp2_with (fail)
 go_ret
 exact ⟨rfl, rfl⟩
theorem rquota_any (n : Nat) (h1 : 8 ≤ n) (h2 : n ≤ 1000) (w : World) : Calls Tryz.prog 84 #[I n] w fun e w' => e = .returned (I (7 * (n - 4) / 2 : Nat)) ∧ w' = w := by
 have i1 : (8 : Int) ≤ n := by omega
 have i2 : (n : Int) ≤ 1000 := by omega
 have hq0 : (0 : Int) ≤ 7 * ((n : Int) - 4) := by omega
 have HV : Hid ((7 : Int) * ((n : Int) - 4) / 2 = (7 * (n - 4) / 2 : Nat)) := Lib.hid (by omega)
 clear h1 h2
 go_enter Tryz.func84, Tryz.ntmps84
 go_wp2_with (fail)
 go_ret
 exact ⟨by rw [← HV.out]; rfl, rfl⟩
end Go.Proofs.YteplbljjlbdhaaaGreatDoor
