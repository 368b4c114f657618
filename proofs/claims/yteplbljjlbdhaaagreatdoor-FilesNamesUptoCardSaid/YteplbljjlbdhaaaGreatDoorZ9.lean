/- Walks and lemmas on the program of this seat, used by its statements; each theorem bears its own conditions. -/
import Derived.Test.YteplbljjlbdhaaaGreatDoorZ8
namespace Go.Proofs.YteplbljjlbdhaaaGreatDoor
open Go.RowKit
set_option linter.unusedVariables false
set_option linter.unusedSimpArgs false
set_option linter.unusedSectionVars false
set_option maxHeartbeats 16000000
set_option maxRecDepth 100000
def formG (last : Int) : List Ch → Int
 | [] => 0
 | c :: l => if c.key < 1 ∨ 2147483647 < c.key ∨ 256 < c.val.length then 151 else if c.key ≤ last ∨ (c.drop = true ∧ c.val ≠ []) then 1 else formG c.key l
def formF (l : List Ch) : Int := formG 0 l
theorem formG_ok (last : Int) (l : List Ch) (h : formG last l = 0) : RisesC l ∧ (∀ c ∈ l, last < c.key ∧ 1 ≤ c.key ∧ c.key ≤ 2147483647 ∧ c.val.length ≤ 256 ∧ (c.drop = true → c.val = [])) := by
 induction l generalizing last with
 | nil => exact ⟨List.Pairwise.nil, fun c hc => by cases hc⟩
 | cons c l ih =>
  unfold formG at h
  split at h
  ·cases h
  ·next h1 =>
   split at h
   ·cases h
   ·next h2 =>
    obtain ⟨i1, i2⟩ := ih _ h
    have hv : c.drop = true → c.val = [] := fun hd => Classical.byContradiction fun hn => h2 (.inr ⟨hd, hn⟩)
    have hlt : last < c.key := by omega
    refine ⟨List.pairwise_cons.2 ⟨fun d hd => (i2 d hd).1, i1⟩, fun d hd => ?_⟩
    rcases List.mem_cons.1 hd with rfl | hd
    ·exact ⟨hlt, by omega, by omega, by omega, hv⟩
    ·obtain ⟨q1, q2⟩ := i2 d hd
     exact ⟨by omega, q2⟩
theorem formF_ok {l : List Ch} (h : formF l = 0) (hr : (recF l).length ≤ 400) : FormC l :=
 ⟨(formG_ok 0 l h).1, fun c hc => ((formG_ok 0 l h).2 c hc).2, hr⟩
theorem form_any (l : List Ch) (v : Value) (w : World) (hv : ChsAt w v l) (hl : l.length ≤ 4611686018427387904) :
  Calls Tryz.prog 141 #[v] w fun e w' => e = .returned (I (formF l)) ∧ Kept [] w w' := by
 obtain ⟨p, c, b, o, rfl, hp, hc⟩ := hv
 have hlI : (l.length : Int) ≤ 4611686018427387904 := by omega
 have HC := Lib.hid (And.intro hc hp)
 clear hc hp
 go_enter Tryz.func141, Tryz.ntmps141
 go_wp2_with (fail)
 go_loopw [3, 8] (fun v3 i wr => ∃ (j : Nat) (last : Int), j ≤ l.length ∧ i = I j ∧ v3 = I last ∧ formF l = formG last (l.drop j) ∧ Kept [] w wr) (fun _ i _ => l.length - (intOf i).toNat)
 case atStart => exact ⟨0, 0, by omega, rfl, rfl, rfl, Kept.refl _ _⟩
 case round =>
  obtain ⟨j, last, hj, rfl, rfl, hf, kr⟩ := hrel
  by_cases hlt : j < l.length
  ·obtain ⟨hc, hp⟩ := HC.out
   have hpe := hp (by intro h; subst h; simp at hlt)
   subst hpe
   have hltI : (j : Int) < l.length := by omega
   obtain ⟨d0, d1, d2⟩ := hc j hlt
   have e0 := kr.cellOf d0
   have e1 := kr.cellOf d1
   have e2 := kr.cellOf d2
   obtain ⟨⟨ky, vl, dr⟩, hx⟩ : ∃ x, l[j] = x := ⟨_, rfl⟩
   rw [List.drop_eq_getElem_cons hlt, hx] at hf
   rw [hx] at e0 e1 e2
   simp only at e0 e1 e2
   have HF := Lib.hid (And.intro hf (kr.alloc (Obj.cells #[I ky, S vl, .bool dr] 146)))
   clear hf kr hc hp d0 d1 d2 hx
   by_cases a1 : ky < 1
   ·have hd : decide (ky < 1) = true := decide_eq_true a1
    have HE : Hid (formF l = 151) := Lib.hid (by rw [HF.out.1]; unfold formG; rw [if_pos (.inl a1)])
    go_wp2_with (fail)
    go_ret
    exact ⟨by (rw [HE.out]; first | done | rfl), HF.out.2⟩
   by_cases a2 : 2147483647 < ky
   ·have hd1 : decide (ky < 1) = false := decide_eq_false a1
    have hd : decide (2147483647 < ky) = true := decide_eq_true a2
    have HE : Hid (formF l = 151) := Lib.hid (by rw [HF.out.1]; unfold formG; rw [if_pos (.inr (.inl a2))])
    clear a1
    go_wp2_with (fail)
    go_ret
    exact ⟨by (rw [HE.out]; first | done | rfl), HF.out.2⟩
   have hd1 : decide (ky < 1) = false := decide_eq_false a1
   have hd2 : decide (2147483647 < ky) = false := decide_eq_false a2
   by_cases a3 : 256 < vl.length
   ·have hd : decide ((256 : Int) < vl.length) = true := decide_eq_true (by omega)
    have a3I : (256 : Int) < vl.length := by omega
    have HE : Hid (formF l = 151) := Lib.hid (by rw [HF.out.1]; unfold formG; rw [if_pos (.inr (.inr a3))])
    clear a1 a2
    go_wp2_with (fail)
    go_ret
    exact ⟨by (rw [HE.out]; first | done | rfl), HF.out.2⟩
   have hd3 : decide ((256 : Int) < vl.length) = false := decide_eq_false (by omega)
   have a3I : ¬ (256 : Int) < vl.length := by omega
   have HG : Hid (formF l = if ky ≤ last ∨ (dr = true ∧ vl ≠ []) then 1 else formG ky (l.drop (j + 1))) := Lib.hid (by
    rw [HF.out.1]
    show (if ky < 1 ∨ 2147483647 < ky ∨ 256 < vl.length then 151 else _) = _
    rw [if_neg (by omega)])
   by_cases a4 : ky ≤ last
   ·have hd : decide (ky ≤ last) = true := decide_eq_true a4
    have HE : Hid (formF l = 1) := Lib.hid (by rw [HG.out, if_pos (.inl a4)])
    clear a1 a2 a3
    go_wp2_with (fail)
    go_ret
    exact ⟨by (rw [HE.out]; first | done | rfl), HF.out.2⟩
   have hd4 : decide (ky ≤ last) = false := decide_eq_false a4
   clear a1 a2 a3
   cases dr with
   | true =>
    by_cases a5 : vl = []
    ·subst a5
     have HE : Hid (formF l = formG ky (l.drop (j + 1))) := Lib.hid (by rw [HG.out, if_neg (by intro h; rcases h with h | h; exact a4 h; exact h.2 rfl)])
     clear a4
     go_wp2_with (fail)
     go_roundw
     case rel => exact ⟨j + 1, ky, by omega, by go_num, rfl, HE.out, HF.out.2⟩
     case measure => simp [intOf]; omega
    ·have hb1 : (vl != []) = true := by simpa using a5
     have hb2 : (!vl.isEmpty) = true := by simpa using a5
     have HE : Hid (formF l = 1) := Lib.hid (by rw [HG.out, if_pos (.inr ⟨rfl, a5⟩)])
     clear a4 a5
     go_wp2_with (fail)
     go_ret
     exact ⟨by (rw [HE.out]; first | done | rfl), HF.out.2⟩
   | false =>
    have HE : Hid (formF l = formG ky (l.drop (j + 1))) := Lib.hid (by rw [HG.out, if_neg (by intro h; rcases h with h | h; exact a4 h; cases h.1)])
    clear a4
    go_wp2_with (fail)
    go_roundw
    case rel => exact ⟨j + 1, ky, by omega, by go_num, rfl, HE.out, HF.out.2⟩
    case measure => simp [intOf]; omega
  ·have hje : j = l.length := by omega
   subst hje
   have HE : Hid (formF l = 0) := Lib.hid (by rw [hf, List.drop_length]; rfl)
   have HK := Lib.hid kr
   clear hf kr HC
   go_wp2_with (fail)
   go_ret
   exact ⟨by (rw [HE.out]; first | done | rfl), HK.out⟩
def oldW (M : OM) (c : Ch) : Nat := ((findA M c.key).map wO).getD 0
def becW (M : OM) : List Ch → Int → Int
 | [], x => x
 | c :: l, x => becW M l (x - oldW M c + chW c)
def othC (M : OM) (c : Ch) : Bool := match findA M c.key with | some o => c.drop || o.val != c.val | none => !c.drop
def othF (M : OM) (l : List Ch) : Bool := l.any (othC M)
theorem becW_takes (M : OM) (s a : Nat) (l : List Ch) (hr : RisesC l) : ∀ (N : OM), SortedA N → (∀ c ∈ l, findA N c.key = findA M c.key) → becW M l (sumA wO N) = sumA wO (takesF N l s a) := by
 induction l with
 | nil => intro N _ _; rfl
 | cons c l ih =>
  intro N hs h
  obtain ⟨h1, h2⟩ := List.pairwise_cons.1 hr
  have e := take1_sum wO hs s a c
  have hc := h c (by simp)
  show becW M l (sumA wO N - oldW M c + chW c) = sumA wO (takesF (take1 s a N c) l s a)
  rw [← ih h2 (take1 s a N c) (take1_sorted hs s a c) (fun d hd => by rw [take1_find hs, if_neg (by have := h1 d hd; omega)]; exact h d (by simp [hd]))]
  congr 1
  unfold oldW chW
  rw [hc] at e
  split at e <;> rename_i hd <;> simp only [hd, if_true, if_false, Bool.false_eq_true] at e ⊢
  ·omega
  ·have : wO ⟨c.val, s, a⟩ = wF c.val := rfl
   omega
theorem oth_same (M : OM) (hs : SortedA M) (s a : Nat) (l : List Ch) (hr : RisesC l) (h : othF M l = false) : ∀ k, valM (takesF M l s a) k = valM M k := by
 intro k
 unfold valM
 by_cases hc : ∃ c ∈ l, c.key = k
 ·obtain ⟨c, hc, rfl⟩ := hc
  rw [takes_find s a l hr c hc hs]
  have h1 : othC M c = false := by
   cases hq : othC M c with
   | false => rfl
   | true => exact absurd (List.any_eq_true.2 ⟨c, hc, hq⟩) (by unfold othF at h; rw [h]; simp)
  unfold othC at h1
  cases ho : findA M c.key with
  | none =>
   rw [ho] at h1
   simp only [Bool.not_eq_false'] at h1
   rw [h1]; rfl
  | some o =>
   rw [ho] at h1
   simp only [Bool.or_eq_false_iff, bne_eq_false_iff_eq] at h1
   rw [h1.1, if_neg (by simp), ← h1.2]; rfl
 ·rw [takes_other s a l k (fun c hcm he => hc ⟨c, hcm, he⟩) hs]
theorem valM_takes (M : OM) (hs : SortedA M) (s a : Nat) (l : List Ch) (hr : RisesC l) (k : Int) : valM (takesF M l s a) k = match l.find? (fun c => c.key == k) with | some c => (if c.drop then none else some c.val) | none => valM M k := by
 unfold valM
 split
 ·next c h =>
  have h1 := List.mem_of_find?_eq_some h
  have h2 : c.key = k := by simpa using List.find?_some h
  rw [← h2, takes_find s a l hr _ h1 hs]
  split <;> rfl
 ·next h =>
  rw [takes_other s a l k (fun c hcm he => by
   have := List.find?_eq_none.1 h c hcm
   simp [he] at this) hs]
theorem takes_val {M N : OM} (h1 : SortedA M) (h2 : SortedA N) (h : ∀ k, valM M k = valM N k) (l : List Ch) (hr : RisesC l) (s a s' a' : Nat) (k : Int) : valM (takesF M l s a) k = valM (takesF N l s' a') k := by
 rw [valM_takes M h1 s a l hr, valM_takes N h2 s' a' l hr]
 split
 ·rfl
 ·exact h k
structure CoreAt (w : World) (sb pb lb mb kb : Nat) (x : Int) (M : OM) (C : List (Int × Nat)) : Prop where
 blk : w.heap[sb]? = some (.cells #[Ptr pb, Ptr lb, .map (some mb), .map (some kb), I x, .bool false] 140 (0, 0))
 ob : ObAt w mb M
 ct : CtAt w kb C
 n1 : sb ≠ mb
 n2 : sb ≠ kb
 n3 : mb ≠ kb
section
variable {w : World} {sb pb lb mb kb : Nat} {x : Int} {M : OM} {C : List (Int × Nat)}
theorem CoreAt.cells (h : CoreAt w sb pb lb mb kb x M C) : w.cell? ⟨sb, 0, none⟩ = some (Ptr pb) ∧ w.cell? ⟨sb, 1, none⟩ = some (Ptr lb) ∧ w.cell? ⟨sb, 2, none⟩ = some (.map (some mb)) ∧ w.cell? ⟨sb, 3, none⟩ = some (.map (some kb)) ∧ w.cell? ⟨sb, 4, none⟩ = some (I x) ∧ w.cell? ⟨sb, 5, none⟩ = some (.bool false) := by
 refine ⟨?_, ?_, ?_, ?_, ?_, ?_⟩ <;> (rw [cell_at h.blk]; rfl)
theorem CoreAt.free (h : CoreAt w sb pb lb mb kb x M C) (i : Nat) : w.frozen? ⟨sb, i, none⟩ = false := free_at h.blk i
theorem CoreAt.lt (h : CoreAt w sb pb lb mb kb x M C) : sb < w.heap.size := lt_of_block h.blk
theorem CoreAt.kept {w' : World} {T : List Nat} (h : CoreAt w sb pb lb mb kb x M C) (k : Kept T w w') (h1 : sb ∉ T) (h2 : mb ∉ T) (h3 : kb ∉ T) : CoreAt w' sb pb lb mb kb x M C :=
 ⟨k.at h.blk h1, h.ob.kept k h2, h.ct.kept k h3, h.n1, h.n2, h.n3⟩
theorem CoreAt.same {w' : World} (h : CoreAt w sb pb lb mb kb x M C) (k : Kept [] w w') : CoreAt w' sb pb lb mb kb x M C := h.kept k (by simp) (by simp) (by simp)
theorem CoreAt.setW (h : CoreAt w sb pb lb mb kb x M C) (y : Int) : CoreAt (w.setCell ⟨sb, 4, none⟩ (I y)) sb pb lb mb kb y M C :=
 ⟨by have := heap_setCell_at h.blk 4 (I y); simpa using this, h.ob.kept ((Kept.refl [sb] w).setCell (.inl (by simp)) _) (by simpa using Ne.symm h.n1), h.ct.kept ((Kept.refl [sb] w).setCell (.inl (by simp)) _) (by simpa using Ne.symm h.n2), h.n1, h.n2, h.n3⟩
theorem CoreAt.setM {w' : World} {M' : OM} (h : CoreAt w sb pb lb mb kb x M C) (k : Kept [mb] w w') (o : ObAt w' mb M') : CoreAt w' sb pb lb mb kb x M' C :=
 ⟨k.at h.blk (by simpa using h.n1), o, h.ct.kept k (by simpa using Ne.symm h.n3), h.n1, h.n2, h.n3⟩
theorem CoreAt.setC {w' : World} {C' : List (Int × Nat)} (h : CoreAt w sb pb lb mb kb x M C) (k : Kept [kb] w w') (o : CtAt w' kb C') : CoreAt w' sb pb lb mb kb x M C' :=
 ⟨k.at h.blk (by simpa using h.n2), h.ob.kept k (by simpa using h.n3), o, h.n1, h.n2, h.n3⟩
theorem CoreAt.find_some (h : CoreAt w sb pb lb mb kb x M C) {k : Int} (hk : I64 k) {o : Ob} (ho : findA M k = some o) : (Instr.lookup 137 (.map (some mb)) (I k) true).run Tryz.prog w = .ok (.tuple #[.agg #[S o.val, I o.seg, I o.pos], .bool true]) w :=
 h.ob.look_some Tryz.underlying137 (ob_zero w) (obR_mk _) obR_inv hk ho
theorem CoreAt.find_none (h : CoreAt w sb pb lb mb kb x M C) {k : Int} (hk : I64 k) (ho : findA M k = none) : (Instr.lookup 137 (.map (some mb)) (I k) true).run Tryz.prog w = .ok (.tuple #[.agg #[S [], I 0, I 0], .bool false]) w :=
 h.ob.look_none Tryz.underlying137 (ob_zero w) (obR_mk _) (fun v ps hv => obR_inv v ⟨[], 0, 0⟩ ps hv) hk ho
end
theorem store3 {w : World} {b : Nat} {a0 a1 a2 : Value} {t : TypeId} (h : w.heap[b]? = some (.cells #[a0, a1, a2] t (0, 0))) (x y z : Value) : (((w.setCell ⟨b, 0, none⟩ x).setCell ⟨b, 1, none⟩ y).setCell ⟨b, 2, none⟩ z).heap[b]? = some (.cells #[x, y, z] t (0, 0)) := by
 have h1 := heap_setCell_at h 0 x
 have h2 := heap_setCell_at h1 1 y
 have h3 := heap_setCell_at h2 2 z
 simpa using h3
theorem i64_key {k : Int} (h1 : 1 ≤ k) (h2 : k ≤ 2147483647) : I64 k := ⟨by omega, by omega⟩
theorem becomes_any (w : World) (sb pb lb mb kb : Nat) (x : Int) (M : OM) (C : List (Int × Nat)) (h : CoreAt w sb pb lb mb kb x M C) (l : List Ch) (v : Value) (hv : ChsAt w v l) (hl : l.length ≤ 1000) (hk : ∀ c ∈ l, 1 ≤ c.key ∧ c.key ≤ 2147483647 ∧ c.val.length ≤ 256)
  (hM : ∀ k o, findA M k = some o → o.val.length ≤ 256) (hx : 0 ≤ x ∧ x ≤ 100000) :
  Calls Tryz.prog 113 #[Ptr sb, v] w fun e w' => e = .returned (.tuple #[I (becW M l x), .bool (othF M l)]) ∧ Kept [] w w' := by
 obtain ⟨p, c, b, o, rfl, hp, hc⟩ := hv
 have hlI : (l.length : Int) ≤ 1000 := by omega
 have HC := Lib.hid (And.intro hc (And.intro hp (And.intro hk hM)))
 have H := Lib.hid h
 obtain ⟨c0, c1, c2, c3, c4, c5⟩ := h.cells
 have HCL := Lib.hid (fun W (k : Kept [] w W) => (h.same k).cells)
 have hw7 : ∀ n : Nat, n ≤ 256 → pagesF (7 + n) ≤ 7 := by intro n hn; unfold pagesF; split <;> omega
 have HW := Lib.hid hw7
 have HX := Lib.hid hx
 clear hc hp hk hM h hw7 hx
 go_enter Tryz.func113, Tryz.ntmps113
 go_wp2_with (fail)
 go_loopw [6, 7, 18] (fun v6 v7 i wr => ∃ (j : Nat) (y : Int) (ot : Bool), j ≤ l.length ∧ i = I j ∧ v6 = I y ∧ v7 = .bool ot ∧ becW M l x = becW M (l.drop j) y ∧ othF M l = (ot || othF M (l.drop j)) ∧ -7 * (j : Int) ≤ y ∧ y ≤ 100000 + 7 * j ∧ Kept [] w wr) (fun _ _ i _ => l.length - (intOf i).toNat)
 case atStart => exact ⟨0, x, false, by omega, rfl, rfl, rfl, rfl, by simp, by have := HX.out.1; omega, by have := HX.out.2; omega, Kept.refl _ _⟩
 case round =>
  obtain ⟨j, y, ot, hj, rfl, rfl, rfl, hbw, hot, hy1, hy2, kr⟩ := hrel
  by_cases hlt : j < l.length
  ·obtain ⟨hc, hp, hk, hM⟩ := HC.out
   have hpe := hp (by intro h; subst h; simp at hlt)
   subst hpe
   have hltI : (j : Int) < l.length := by omega
   obtain ⟨d0, d1, d2⟩ := hc j hlt
   have e0 := kr.cellOf d0
   have e1 := kr.cellOf d1
   have e2 := kr.cellOf d2
   obtain ⟨⟨ky, vl, dr⟩, hx⟩ : ∃ x, l[j] = x := ⟨_, rfl⟩
   obtain ⟨hk1, hk2, hk3⟩ := hk l[j] (List.getElem_mem hlt)
   rw [List.drop_eq_getElem_cons hlt, hx] at hbw hot
   rw [hx] at e0 e1 e2 hk1 hk2 hk3
   simp only at e0 e1 e2 hk1 hk2 hk3
   have hvI : (vl.length : Int) ≤ 256 := by omega
   have hkx := kr.alloc (Obj.cells #[I ky, S vl, .bool dr] 146)
   have hnw := heap_new wr (Obj.cells #[I ky, S vl, .bool dr] 146)
   obtain ⟨W1, hW1⟩ : ∃ W1, wr.alloc (Obj.cells #[I ky, S vl, .bool dr] 146) = W1 := ⟨_, rfl⟩
   obtain ⟨q, hq⟩ : ∃ q, wr.heap.size = q := ⟨_, rfl⟩
   go_upto_region 5 with (fail)
   rw [hW1] at hkx hnw
   rw [hq] at hnw
   have g0 := cell_at hnw 0
   have g1 := cell_at hnw 1
   have g2 := cell_at hnw 2
   simp only [List.getElem?_toArray, List.getElem?_cons_zero, List.getElem?_cons_succ] at g0 g1 g2
   obtain ⟨s0, s1, s2, s3, s4, s5⟩ := HCL.out W1 hkx
   have HRL := Lib.hid (And.intro hbw (And.intro hot (And.intro hkx (And.intro hy1 (And.intro hy2 hnw)))))
   have hy1I : -7000 ≤ y := by omega
   have hy2I : y ≤ 107000 := by omega
   clear hbw hot hkx kr hc hp hk d0 d1 d2 e0 e1 e2 hx hW1 hq c0 c1 c2 c3 c4 c5 hnw hy1 hy2
   obtain ⟨q2, hq2⟩ : ∃ q2, W1.heap.size = q2 := ⟨_, rfl⟩
   obtain ⟨W2, hW2⟩ : ∃ W2, (W1.alloc (Obj.cells #[S [], I 0, I 0] 176)).drew = W2 := ⟨_, rfl⟩
   have hW3 : W1.drew.alloc (Obj.cells #[S [], I 0, I 0] 176) = W2 := hW2
   have k12 : Kept [] W1 W2 := by rw [← hW2]; exact ((Kept.refl [] W1).alloc _).drew
   have hb2 : W2.heap[q2]? = some (.cells #[S [], I 0, I 0] 176 (0, 0)) := by rw [← hW2, ← hq2]; exact heap_new W1 _
   have k2 := HRL.out.2.2.1.trans' k12
   have k1d := HRL.out.2.2.1.drew
   obtain ⟨t0, t1, t2, t3, t4, t5⟩ := HCL.out W2 k2
   obtain ⟨td0, td1, td2, td3, td4, td5⟩ := HCL.out W1.drew k1d
   have u0 := k12.cellOf g0
   have u0d := ((Kept.refl [] W1).drew).cellOf g0
   obtain ⟨ov, os, op, is, hov, hlook, hlookd⟩ : ∃ (ov : List UInt8) (os op : Nat) (is : Bool), ((findA M ky = none ∧ is = false ∧ ov = []) ∨ (findA M ky = some ⟨ov, os, op⟩ ∧ is = true)) ∧ (Instr.lookup 137 (.map (some mb)) (I ky) true).run Tryz.prog W2 = .ok (.tuple #[.agg #[S ov, I os, I op], .bool is]) W2 ∧ (Instr.lookup 137 (.map (some mb)) (I ky) true).run Tryz.prog W1.drew = .ok (.tuple #[.agg #[S ov, I os, I op], .bool is]) W1.drew := by
    cases hfo : findA M ky with
    | none => exact ⟨[], 0, 0, false, .inl ⟨rfl, rfl, rfl⟩, (H.out.same k2).find_none (i64_key hk1 hk2) hfo, (H.out.same k1d).find_none (i64_key hk1 hk2) hfo⟩
    | some ob => exact ⟨ob.val, ob.seg, ob.pos, true, .inr ⟨rfl, rfl⟩, (H.out.same k2).find_some (i64_key hk1 hk2) hfo, (H.out.same k1d).find_some (i64_key hk1 hk2) hfo⟩
   have HOV := Lib.hid hov
   have HB2 := Lib.hid (And.intro hb2 k12)
   have HQ2 := Lib.hid hq2
   have hf2 := free_at hb2
   have z0 := cell_at hb2 0
   have z1 := cell_at hb2 1
   have z2 := cell_at hb2 2
   simp only [List.getElem?_toArray, List.getElem?_cons_zero, List.getElem?_cons_succ] at z0 z1 z2
   clear hov k2 k12 k1d hb2
   go_cut [10, 11] from 22 to 31 (fun v10 v11 wx => v10 = Ptr q2 ∧ v11 = .bool is ∧ wx.heap[q2]? = some (.cells #[S ov, I os, I op] 176 (0, 0)) ∧ Kept [] W1 wx)
   case first =>
    go_region
    all_goals
     go_wp2
     go_meet
     exact ⟨rfl, rfl, store3 HB2.out.1 _ _ _, ((HB2.out.2.setCell (.inr (by have := HQ2.out; show W1.heap.size ≤ q2; omega)) _).setCell (.inr (by have := HQ2.out; show W1.heap.size ≤ q2; omega)) _).setCell (.inr (by have := HQ2.out; show W1.heap.size ≤ q2; omega)) _⟩
   case rest =>
   obtain ⟨rfl, rfl, hbw, kw⟩ := hcut
   have o0 := cell_at hbw 0
   simp only [List.getElem?_toArray, List.getElem?_cons_zero] at o0
   have r0 := kw.cellOf g0
   have r1 := kw.cellOf g1
   have r2 := kw.cellOf g2
   have KW := Lib.hid (HRL.out.2.2.1.trans' kw)
   clear hbw kw g0 g1 g2 t0 t1 t2 t3 t4 t5 td0 td1 td2 td3 td4 td5 s0 s1 s2 s3 s4 s5 u0 u0d hlook hlookd z0 z1 z2 hf2 hW2 hW3 hq2
   have HFIN : Hid (∀ (y' : Int) (ot' : Bool), y' = y - oldW M ⟨ky, vl, dr⟩ + chW ⟨ky, vl, dr⟩ → ot' = (ot || othC M ⟨ky, vl, dr⟩) → becW M l x = becW M (l.drop (j + 1)) y' ∧ othF M l = (ot' || othF M (l.drop (j + 1))) ∧ -7 * ((j + 1 : Nat) : Int) ≤ y' ∧ y' ≤ 100000 + 7 * (j + 1 : Nat)) := Lib.hid (by
    intro y' ot' e1 e2
    obtain ⟨q1, q2, _, q4, q5, _⟩ := HRL.out
    have hbo : oldW M ⟨ky, vl, dr⟩ ≤ 7 := by
     unfold oldW
     cases hfo : findA M ky with
     | none => simp [hfo]
     | some ob => simp only [hfo, Option.map_some, Option.getD_some]; exact HW.out _ (hM _ _ hfo)
    have hbc : chW ⟨ky, vl, dr⟩ ≤ 7 := by
     unfold chW
     split
     ·omega
     ·exact HW.out _ hk3
    refine ⟨?_, ?_, by omega, by omega⟩
    ·rw [q1, e1]; rfl
    ·rw [q2, e2]; simp [othF, Bool.or_assoc])
   have hWv := HW.out vl.length hk3
   obtain ⟨wv, hwv⟩ : ∃ wv, pagesF (7 + vl.length) = wv := ⟨_, rfl⟩
   have HWV := Lib.hid (fun W => weight_any vl.length hk3 W)
   rw [hwv] at HWV hWv
   have hwvI : (wv : Int) ≤ 7 := by omega
   have hwv0 : (0 : Int) ≤ wv := by omega
   have hchW : chW ⟨ky, vl, false⟩ = wv := hwv
   cases is with
   | false =>
    have hfo : findA M ky = none := by
     rcases HOV.out with ⟨h, _⟩ | ⟨_, h⟩
     ·exact h
     ·cases h
    have hold : ∀ dr, oldW M ⟨ky, vl, dr⟩ = 0 := fun dr => by unfold oldW; simp [hfo]
    have hoth : ∀ dr, othC M ⟨ky, vl, dr⟩ = !dr := fun dr => by unfold othC; simp [hfo]
    have HO := Lib.hid (And.intro hold (And.intro hoth hchW))
    clear hold hoth hchW hwv hWv hfo
    cases dr with
    | true =>
     cases ot with
     | true =>
      go_wp2_with (fail)
      go_roundw
      case rel =>
       obtain ⟨f1, f2, f3, f4⟩ := HFIN.out y true (by rw [HO.out.1]; show y = y - 0 + 0; omega) (by simp)
       exact ⟨j + 1, y, true, by omega, by go_num, rfl, rfl, f1, f2, f3, f4, KW.out⟩
      case measure => simp [intOf]; omega
     | false =>
      go_wp2_with (fail)
      go_roundw
      case rel =>
       obtain ⟨f1, f2, f3, f4⟩ := HFIN.out y false (by rw [HO.out.1]; show y = y - 0 + 0; omega) (by rw [HO.out.2.1]; rfl)
       exact ⟨j + 1, y, false, by omega, by go_num, rfl, rfl, f1, f2, f3, f4, KW.out⟩
      case measure => simp [intOf]; omega
    | false =>
     go_wp2_with (fail)
     refine (HWV.out _).mono ?_
     rintro e w5 ⟨rfl, hw5⟩
     replace hw5 := hw5.symm
     subst hw5
     cases ot with
     | true =>
      go_wp2_with (fail)
      go_roundw
      case rel =>
       obtain ⟨f1, f2, f3, f4⟩ := HFIN.out (y + wv) true (by rw [HO.out.1, HO.out.2.2]; omega) (by simp)
       exact ⟨j + 1, y + wv, true, by omega, by go_num, by go_num, rfl, f1, f2, f3, f4, KW.out⟩
      case measure => simp [intOf]; omega
     | false =>
      go_wp2_with (fail)
      go_roundw
      case rel =>
       obtain ⟨f1, f2, f3, f4⟩ := HFIN.out (y + wv) true (by rw [HO.out.1, HO.out.2.2]; omega) (by rw [HO.out.2.1]; rfl)
       exact ⟨j + 1, y + wv, true, by omega, by go_num, by go_num, rfl, f1, f2, f3, f4, KW.out⟩
      case measure => simp [intOf]; omega
   | true =>
    have hfo : findA M ky = some ⟨ov, os, op⟩ := by
     rcases HOV.out with ⟨_, h, _⟩ | ⟨h, _⟩
     ·cases h
     ·exact h
    have hovl : ov.length ≤ 256 := hM _ _ hfo
    have hov2 := HW.out ov.length hovl
    obtain ⟨wo, hwo⟩ : ∃ wo, pagesF (7 + ov.length) = wo := ⟨_, rfl⟩
    have HWO := Lib.hid (fun W => weight_any ov.length hovl W)
    rw [hwo] at HWO hov2
    have hwoI : (wo : Int) ≤ 7 := by omega
    have hwo0 : (0 : Int) ≤ wo := by omega
    have hold : ∀ dr, oldW M ⟨ky, vl, dr⟩ = wo := fun dr => by unfold oldW; simp only [hfo]; exact hwo
    have hoth : ∀ dr, othC M ⟨ky, vl, dr⟩ = (dr || ov != vl) := fun dr => by unfold othC; simp only [hfo]
    have HO := Lib.hid (And.intro hold (And.intro hoth hchW))
    have hovI : (ov.length : Int) ≤ 256 := by omega
    clear hold hoth hchW hwv hWv hfo hwo hov2
    go_wp2_with (fail)
    refine (HWO.out _).mono ?_
    rintro e w5 ⟨rfl, hw5⟩
    replace hw5 := hw5.symm
    subst hw5
    cases dr with
    | true =>
     cases ot with
     | true =>
      go_wp2_with (fail)
      go_roundw
      case rel =>
       obtain ⟨f1, f2, f3, f4⟩ := HFIN.out (y - wo) true (by rw [HO.out.1]; show y - wo = y - wo + 0; omega) (by simp)
       exact ⟨j + 1, y - wo, true, by omega, by go_num, by go_num, rfl, f1, f2, f3, f4, KW.out⟩
      case measure => simp [intOf]; omega
     | false =>
      go_wp2_with (fail)
      go_roundw
      case rel =>
       obtain ⟨f1, f2, f3, f4⟩ := HFIN.out (y - wo) true (by rw [HO.out.1]; show y - wo = y - wo + 0; omega) (by rw [HO.out.2.1]; rfl)
       exact ⟨j + 1, y - wo, true, by omega, by go_num, by go_num, rfl, f1, f2, f3, f4, KW.out⟩
      case measure => simp [intOf]; omega
    | false =>
     have hyw1 : -7007 ≤ y - wo := by omega
     have hyw2 : y - wo ≤ 107000 := by omega
     go_wp2_with (fail)
     refine (HWV.out _).mono ?_
     rintro e w5 ⟨rfl, hw5⟩
     replace hw5 := hw5.symm
     subst hw5
     cases ot with
     | true =>
      go_wp2_with (fail)
      go_roundw
      case rel =>
       obtain ⟨f1, f2, f3, f4⟩ := HFIN.out (y - wo + wv) true (by rw [HO.out.1, HO.out.2.2]) (by simp)
       exact ⟨j + 1, y - wo + wv, true, by omega, by go_num, by go_num, rfl, f1, f2, f3, f4, KW.out⟩
      case measure => simp [intOf]; omega
     | false =>
      by_cases hne : ov = vl
      ·have hb : (ov != vl) = false := by simpa using hne
       have hb2 : (ov == vl) = true := by simpa using hne
       have HN := Lib.hid hb
       clear hne
       go_wp2_with (fail)
       go_roundw
       case rel =>
        obtain ⟨f1, f2, f3, f4⟩ := HFIN.out (y - wo + wv) false (by rw [HO.out.1, HO.out.2.2]) (by rw [HO.out.2.1, HN.out]; rfl)
        exact ⟨j + 1, y - wo + wv, false, by omega, by go_num, by go_num, rfl, f1, f2, f3, f4, KW.out⟩
       case measure => simp [intOf]; omega
      ·have hb : (ov != vl) = true := by simpa using hne
       have hb2 : (ov == vl) = false := by simpa using hne
       have HN := Lib.hid hb
       clear hne
       go_wp2_with (fail)
       go_roundw
       case rel =>
        obtain ⟨f1, f2, f3, f4⟩ := HFIN.out (y - wo + wv) true (by rw [HO.out.1, HO.out.2.2]) (by rw [HO.out.2.1, HN.out]; rfl)
        exact ⟨j + 1, y - wo + wv, true, by omega, by go_num, by go_num, rfl, f1, f2, f3, f4, KW.out⟩
       case measure => simp [intOf]; omega
  ·have hje : j = l.length := by omega
   subst hje
   rw [List.drop_length] at hbw hot
   have HE := Lib.hid (And.intro hbw (And.intro hot kr))
   clear hbw hot kr HC c0 c1 c2 c3 c4 c5
   go_wp2_with (fail)
   go_ret2
   obtain ⟨q1, q2, q3⟩ := HE.out
   refine ⟨?_, q3⟩
   rw [q1, q2]
   simp [becW, othF]
def chCells (c : Ch) : List Value := [I c.key, S c.val, .bool c.drop]
def chsCells (l : List Ch) : List Value := l.flatMap chCells
theorem chsCells_len (l : List Ch) : (chsCells l).length = l.length * 3 := by
 induction l with
 | nil => rfl
 | cons s l ih => simp only [chsCells, List.flatMap_cons, List.length_append, chCells, List.length_cons, List.length_nil] at ih ⊢; omega
theorem chsCells_at (l : List Ch) : ∀ (i : Nat) (h : i < l.length), (chsCells l)[i * 3]? = some (I l[i].key) ∧ (chsCells l)[i * 3 + 1]? = some (S l[i].val) ∧ (chsCells l)[i * 3 + 2]? = some (.bool l[i].drop) := by
 induction l with
 | nil => intro i h; simp at h
 | cons s l ih =>
  intro i h
  cases i with
  | zero => exact ⟨rfl, rfl, rfl⟩
  | succ i =>
   have := ih i (by simpa using h)
   have e : chsCells (s :: l) = I s.key :: S s.val :: .bool s.drop :: chsCells l := rfl
   rw [e, show (i + 1) * 3 = i * 3 + 1 + 1 + 1 by omega]
   exact this
theorem chs_one (l : List Ch) : ∀ u ∈ chsCells l, u.oneCell' = true := by
 intro u hu
 obtain ⟨s, _, hs⟩ := List.mem_flatMap.1 hu
 simp [chCells] at hs
 rcases hs with rfl | rfl | rfl <;> rfl
theorem ch_info : (Tryz.prog.info? 146).map (fun i => (i.zero, i.size, i.bytes)) = some (some (.agg #[.int .i64 0, .string ⟨#[]⟩, .bool false]), 3, 32) := by kernel_rfl
abbrev OwnC (Bs : Nat) (p : Option Addr) (c : Nat) (l : List Ch) (w : World) : Prop := w.ownsRow Bs 146 3 (.slice p l.length c) l.length (chsCells l)
theorem OwnC.at {Bs : Nat} {p : Option Addr} {c : Nat} {l : List Ch} {w : World} (h : OwnC Bs p c l w) : ChsAt w (.slice p l.length c) l := by
 rcases h.2 with ⟨e, h0⟩ | ⟨g, cap, cur, e, hb, hg, hnc, _, hsz, htake⟩
 ·have : l = [] := List.eq_nil_of_length_eq_zero h0
  subst this
  exact ⟨p, c, 0, 0, rfl, fun h => absurd rfl h, fun i hi => by simp at hi⟩
 ·injection e with e1 e2 e3
  refine ⟨p, c, g, 0, rfl, fun _ => e1, fun i hi => ?_⟩
  obtain ⟨a1, a2, a3⟩ := chsCells_at l i hi
  rw [← htake] at a1 a2 a3
  rw [List.getElem?_take_of_lt (by omega), Array.getElem?_toList] at a1 a2 a3
  refine ⟨?_, ?_, ?_⟩
  ·rw [cell_at hg, Nat.zero_add]; exact a1
  ·rw [cell_at hg, Nat.zero_add]; exact a2
  ·rw [cell_at hg, Nat.zero_add]; exact a3
theorem recF_drop (kb R : List UInt8) (k : Nat) (h : kb.length = 4) : ((0 :: kb ++ R).take 5).drop 1 = kb ∧ (0 :: kb ++ R).drop 5 = R := by
 constructor
 ·rw [List.cons_append, List.take_succ_cons, List.drop_succ_cons, List.drop_zero, List.take_left' h]
 ·rw [List.cons_append, List.drop_succ_cons, List.drop_left' h]
theorem recF_put (kb lb vl R : List UInt8) (h : kb.length = 4) (h2 : lb.length = 2) : ((1 :: kb ++ lb ++ vl ++ R).take 5).drop 1 = kb ∧ ((1 :: kb ++ lb ++ vl ++ R).take 7).drop 5 = lb ∧ ((1 :: kb ++ lb ++ vl ++ R).take (vl.length + 7)).drop 7 = vl ∧ (1 :: kb ++ lb ++ vl ++ R).drop (vl.length + 7) = R := by
 obtain ⟨a, b, c, d, rfl⟩ : ∃ a b c d, kb = [a, b, c, d] := by
  match kb, h with
  | [a, b, c, d], _ => exact ⟨a, b, c, d, rfl⟩
 obtain ⟨x, y, rfl⟩ : ∃ x y, lb = [x, y] := by
  match lb, h2 with
  | [x, y], _ => exact ⟨x, y, rfl⟩
 refine ⟨rfl, rfl, ?_, ?_⟩
 ·simp
 ·simp
theorem oparse_any (l : List Ch) (hk : ∀ c ∈ l, 1 ≤ c.key ∧ c.key ≤ 2147483647 ∧ c.val.length ≤ 256 ∧ (c.drop = true → c.val = [])) (hb : (recF l).length ≤ 100000) (hl : l.length ≤ 1000) (w : World) :
    Calls Tryz.prog 146 #[S (recF l)] w fun e w' => ∃ p c, e = .returned (.tuple #[.slice p l.length c, .bool true]) ∧ OwnC w.heap.size p c l w' ∧ Kept [] w w' := by
  have HK := Lib.hid (And.intro hk (And.intro hb hl))
  obtain ⟨i0, hi, hz0, hz1, hz2⟩ := info_parts ch_info
  have HI := Lib.hid (And.intro hi (And.intro hz0 (And.intro hz1 hz2)))
  obtain ⟨T, hT⟩ : ∃ T, recF l = T := ⟨_, rfl⟩
  have HT := Lib.hid hT
  rw [hT]
  clear hk hb hT hi hz0 hz1 hz2
  go_enter Tryz.func146, Tryz.ntmps146
  go_wp2_with (fail)
  go_loopw [4, 5] (fun v4 v5 wr => ∃ (done todo : List Ch) (p : Option Addr) (c : Nat) (X : List UInt8), l = done ++ todo ∧ recF todo = X ∧ v5 = S X ∧ v4 = .slice p done.length c ∧ OwnC w.heap.size p c done wr ∧ Kept [] w wr) (fun _ v5 _ => lenV v5)
  case atStart => exact ⟨[], l, none, 0, T, rfl, HT.out, rfl, rfl, ⟨rfl, .inl ⟨rfl, rfl⟩⟩, Kept.refl _ _⟩
  case round =>
    obtain ⟨done, todo, p, c, X, hdt, hX0, rfl, rfl, own, kr⟩ := hrel
    have HR := Lib.hid (And.intro hdt (And.intro own kr))
    have hdl : done.length ≤ 1000 := by have := HK.out.2.2; rw [hdt, List.length_append] at this; omega
    clear hdt own kr
    cases todo with
    | nil =>
      have e0 : [] = X := hX0
      subst e0
      have hdn : l = done := by have := HR.out.1; rw [List.append_nil] at this; exact this
      have hkd : ∀ c ∈ done, 1 ≤ c.key ∧ c.key ≤ 2147483647 ∧ c.val.length ≤ 256 := fun c hc => by
        have := HK.out.1 c (by rw [hdn]; exact hc)
        exact ⟨this.1, this.2.1, this.2.2.1⟩
      have HRC := Lib.hid (orecord_any done _ wr HR.out.2.1.at hdl hkd)
      have hTd : recF done = T := by rw [← hdn, HT.out]
      rw [hTd] at HRC
      have HDN := Lib.hid hdn
      clear hdn hkd hTd hX0
      go_wp2_with (fail)
      refine HRC.out.mono ?_
      rintro e w2 ⟨rfl, k2⟩
      have K2 := Lib.hid k2
      clear k2
      go_wp2_with (fail)
      go_ret2
      refine ⟨p, c, by rw [HDN.out]; first | done | rfl | simp, ?_, HR.out.2.2.trans' K2.out⟩
      rw [HDN.out]
      exact own_kept HR.out.2.1 K2.out (by simp)
    | cons x todo =>
      obtain ⟨ky, vl, dr⟩ := x
      obtain ⟨h1, h2, h3, h4⟩ := HK.out.1 ⟨ky, vl, dr⟩ (by rw [HR.out.1]; simp)
      simp only at h1 h2 h3 h4
      have hlen : (recF (⟨ky, vl, dr⟩ :: todo)).length ≤ 100000 := by
        have := HK.out.2.1
        rw [HR.out.1] at this
        have e : recF (done ++ ⟨ky, vl, dr⟩ :: todo) = recF done ++ recF (⟨ky, vl, dr⟩ :: todo) := by simp [recF]
        rw [e, List.length_append] at this
        omega
      have hkl := putN_len 4 ky.toNat
      have hgk : getN (putN 4 ky.toNat) = ky.toNat := getN_put 4 _ (by omega)
      have hkn : ((ky.toNat : Nat) : Int) = ky := by omega
      obtain ⟨kb, hkb⟩ : ∃ kb, putN 4 ky.toNat = kb := ⟨_, rfl⟩
      rw [hkb] at hkl hgk
      have hgl : getN (putN 2 vl.length) = vl.length := getN_put 2 _ (by omega)
      have hll := putN_len 2 vl.length
      obtain ⟨lb, hlb⟩ : ∃ lb, putN 2 vl.length = lb := ⟨_, rfl⟩
      rw [hlb] at hll hgl
      obtain ⟨R, hR⟩ : ∃ R, recF todo = R := ⟨_, rfl⟩
      obtain ⟨q, hq⟩ : ∃ q, wr.heap.size = q := ⟨_, rfl⟩
      obtain ⟨hi, hz0, hz1, hz2⟩ := HI.out
      have HGK : Hid (∀ W, Calls Tryz.prog 79 #[S kb] W fun e w' => e = .returned (.tuple #[I ky, I 0]) ∧ w' = W) := Lib.hid (fun W => by
        have := get_any W kb (by intro h; rw [h] at hkl; cases hkl) (by omega)
        rw [hgk, hkn] at this; exact this)
      have HGL : Hid (∀ W, Calls Tryz.prog 79 #[S lb] W fun e w' => e = .returned (.tuple #[I vl.length, I 0]) ∧ w' = W) := Lib.hid (fun W => by
        have := get_any W lb (by intro h; rw [h] at hll; cases hll) (by omega)
        rw [hgl] at this; exact this)
      cases dr with
      | true =>
        have hv := h4 rfl
        subst hv
        have hrec : recF (⟨ky, [], true⟩ :: todo) = 0 :: kb ++ R := by rw [recF_cons, hR, ← hkb]; rfl
        have hX : 0 :: kb ++ R = X := by rw [← hX0, hrec]
        obtain ⟨c1, c2⟩ := recF_drop kb R 5 hkl
        have hb0 : byteAt X 0 = 0 := by rw [← hX]; rfl
        have hXl : X.length = 5 + R.length := by rw [← hX]; simp [hkl]; omega
        rw [hrec, hX] at hlen
        rw [hX] at c1 c2
        have hXI : (5 : Int) ≤ X.length := by omega
        have hXI2 : (X.length : Int) ≤ 100000 := by omega
        have hXe : X.isEmpty = false := by cases X; simp at hXl; omega; rfl
        have hXn : (X == []) = false := by cases X; simp at hXl; omega; rfl
        have hq0 : ((byteAt X 0).toNat : Int) = 0 := by rw [hb0]; rfl
        have hq0b : (((byteAt X 0).toNat : Int) != 1) = true := by rw [hb0]; rfl
        have HF := Lib.hid (And.intro hR (And.intro hXl hkb))
        have hnw := heap_new wr (Obj.cells #[I 0, S [], .bool true] 146)
        have hkx := (Kept.refl [] wr).alloc (Obj.cells #[I 0, S [], .bool true] 146)
        obtain ⟨W1, hW1⟩ : ∃ W1, wr.alloc (Obj.cells #[I 0, S [], .bool true] 146) = W1 := ⟨_, rfl⟩
        rw [hW1, hq] at hnw
        rw [hW1] at hkx
        have g0 := cell_at hnw 0
        have gf := free_at hnw
        have hnw2 := heap_setCell_at hnw 0 (I ky)
        obtain ⟨W2, hW2⟩ : ∃ W2, W1.setCell ⟨q, 0, none⟩ (I ky) = W2 := ⟨_, rfl⟩
        have hkx2 : Kept [] wr W2 := by rw [← hW2]; exact hkx.setCell (.inr (by show wr.heap.size ≤ q; omega)) _
        rw [hW2] at hnw2
        have hnw3 : W2.heap[q]? = some (.cells #[I ky, S [], .bool true] 146 (0, 0)) := by simpa using hnw2
        have m0 := cell_at hnw3 0
        have m1 := cell_at hnw3 1
        have m2 := cell_at hnw3 2
        have n0 : W2.drew.cell? ⟨q, 0, none⟩ = _ := m0
        have n1 : W2.drew.cell? ⟨q, 1, none⟩ = _ := m1
        have n2 : W2.drew.cell? ⟨q, 2, none⟩ = _ := m2
        simp only [List.getElem?_toArray, List.getElem?_cons_zero, List.getElem?_cons_succ] at g0 m0 m1 m2 n0 n1 n2
        have HW2 := Lib.hid hkx2
        clear hR hXl hkb hnw hkx hnw2 hkx2 hnw3 hb0 hrec h4 hX0 hX
        go_upto_region 17 with (fail)
        refine (HGK.out _).mono ?_
        rintro e w5 ⟨rfl, rfl⟩
        go_upto_region 17 with (fail)
        go_region_law (first
          | (refine step_append_lies _ rfl (.tmp 47) (.tmp 49) 147 rfl w.heap.size 146 i0 (.agg #[.int .i64 0, .string ⟨#[]⟩, .bool false]) 3 32 Tryz.underlying147 hi hz0 hz1 hz2 rfl (by decide) (.slice p done.length c) done.length (chsCells done) (by simp [Act.eval, Act.put]) (by first | exact own_kept HR.out.2.1 (HW2.out.alloc (Obj.cells #[I ky, S [], .bool true] 146)).drew (by simp) | exact own_kept HR.out.2.1 (HW2.out.drew.alloc (Obj.cells #[I ky, S [], .bool true] 146)) (by simp)) ⟨W2.heap.size, 0, none⟩ 1 1 [I ky, S [], .bool true] (by simp [Act.eval, Act.put]) rfl (by first | exact World.news_of_block (heap_new W2 (Obj.cells #[I ky, S [], .bool true] 146)) | exact World.news_of_block (heap_new W2.drew (Obj.cells #[I ky, S [], .bool true] 146))) (chs_one [⟨ky, [], true⟩]) (by decide) (by unfold maxLen; omega) (by omega) (by have := (HR.out.2.2.trans' HW2.out).size; exact Nat.le_trans this (((Kept.refl [] W2).alloc (Obj.cells #[I ky, S [], .bool true] 146)).size)) _ rfl ?_
             intro g cap wa own1 gr1 hat hlt
             have HA := Lib.hid (And.intro own1 (kept_grown gr1))
             clear own1 gr1 hat hlt))
        all_goals
          simp only [List.getElem_toArray, List.getElem_cons_succ, List.getElem_cons_zero]
          go_frame
          go_wp2
          go_roundw
          case rel =>
            obtain ⟨own1, kg⟩ := HA.out
            refine ⟨done ++ [⟨ky, [], true⟩], todo, some ⟨g, 0, none⟩, cap, R, by rw [HR.out.1]; simp, HF.out.1, rfl, by simp, ?_, ?_⟩
            · have e : chsCells done ++ [I ky, S [], .bool true] = chsCells (done ++ [⟨ky, [], true⟩]) := by simp [chsCells, chCells]
              rw [e] at own1
              show World.ownsRow _ _ _ _ _ _ _
              rw [List.length_append]
              exact own1
            · refine (HR.out.2.2.trans' HW2.out).new (((Kept.refl [] W2).alloc (Obj.cells #[I ky, S [], .bool true] 146)).drew.mono (by simp) |>.trans' kg) ?_
              intro x hx
              exact (own_lt HR.out.2.1 x (by simpa using hx)).1
          case measure =>
            show R.length < X.length
            have := HF.out.2.1
            omega
      | false =>
        have hrec : recF (⟨ky, vl, false⟩ :: todo) = 1 :: kb ++ lb ++ vl ++ R := by rw [recF_cons, hR, ← hkb, ← hlb]; rfl
        have hX : 1 :: kb ++ lb ++ vl ++ R = X := by rw [← hX0, hrec]
        obtain ⟨c1, c2, c3, c4⟩ := recF_put kb lb vl R hkl hll
        have hb0 : byteAt X 0 = 1 := by rw [← hX]; rfl
        have hXl : X.length = 7 + vl.length + R.length := by rw [← hX]; simp [hkl, hll]; omega
        rw [hrec, hX] at hlen
        rw [hX] at c1 c2 c3 c4
        have hXI : (vl.length : Int) + 7 ≤ X.length := by omega
        have hXI2 : (X.length : Int) ≤ 100000 := by omega
        have hn0 : (0 : Int) ≤ (vl.length : Int) + 7 := by omega
        have hnt : ((vl.length : Int) + 7).toNat = vl.length + 7 := by omega
        have hXd : decide ((vl.length : Int) + 7 ≤ X.length) = true := decide_eq_true hXI
        have hvI : (vl.length : Int) ≤ 256 := by omega
        have hXe : X.isEmpty = false := by cases X; simp at hXl; omega; rfl
        have hXn : (X == []) = false := by cases X; simp at hXl; omega; rfl
        have hq0 : ((byteAt X 0).toNat : Int) = 1 := by rw [hb0]; rfl
        have hq0b : (((byteAt X 0).toNat : Int) != 1) = false := by rw [hb0]; rfl
        have HF := Lib.hid (And.intro hR (And.intro hXl hkb))
        clear hR hXl hkb hlb hb0 hrec h4 hX0 hX
        go_upto_region 7 with (fail)
        have hnw := heap_new wr (Obj.cells #[I 0, S [], .bool false] 146)
        have hkx := (Kept.refl [] wr).alloc (Obj.cells #[I 0, S [], .bool false] 146)
        obtain ⟨W1, hW1⟩ : ∃ W1, wr.alloc (Obj.cells #[I 0, S [], .bool false] 146) = W1 := ⟨_, rfl⟩
        rw [hW1, hq] at hnw
        rw [hW1] at hkx
        have g0 := cell_at hnw 0
        have gf := free_at hnw
        have hnwa := heap_setCell_at hnw 0 (I ky)
        obtain ⟨Wa, hWa⟩ : ∃ Wa, W1.setCell ⟨q, 0, none⟩ (I ky) = Wa := ⟨_, rfl⟩
        have hkxa : Kept [] wr Wa := by rw [← hWa]; exact hkx.setCell (.inr (by show wr.heap.size ≤ q; omega)) _
        rw [hWa] at hnwa
        have hnwb : Wa.heap[q]? = some (.cells #[I ky, S [], .bool false] 146 (0, 0)) := by simpa using hnwa
        have a1 := cell_at hnwb 1
        have a2 := cell_at hnwb 2
        have af := free_at hnwb
        have hnw2 := heap_setCell_at hnwb 1 (S vl)
        obtain ⟨W2, hW2⟩ : ∃ W2, Wa.setCell ⟨q, 1, none⟩ (S vl) = W2 := ⟨_, rfl⟩
        have hkx2 : Kept [] wr W2 := by rw [← hW2]; exact hkxa.setCell (.inr (by show wr.heap.size ≤ q; omega)) _
        rw [hW2] at hnw2
        have hnw3 : W2.heap[q]? = some (.cells #[I ky, S vl, .bool false] 146 (0, 0)) := by simpa using hnw2
        have m0 := cell_at hnw3 0
        have m1 := cell_at hnw3 1
        have m2 := cell_at hnw3 2
        have n0 : W2.drew.cell? ⟨q, 0, none⟩ = _ := m0
        have n1 : W2.drew.cell? ⟨q, 1, none⟩ = _ := m1
        have n2 : W2.drew.cell? ⟨q, 2, none⟩ = _ := m2
        simp only [List.getElem?_toArray, List.getElem?_cons_zero, List.getElem?_cons_succ] at g0 a1 a2 m0 m1 m2 n0 n1 n2
        have HW2 := Lib.hid hkx2
        clear hnw hkx hnw2 hkx2 hnw3 hnwa hnwb hkxa
        go_upto_region 17 with (fail)
        refine (HGK.out _).mono ?_
        rintro e w5 ⟨rfl, rfl⟩
        go_upto_region 17 with (fail)
        refine (HGL.out _).mono ?_
        rintro e w5 ⟨rfl, rfl⟩
        go_upto_region 17 with (fail)
        go_region_law (first
          | (refine step_append_lies _ rfl (.tmp 47) (.tmp 49) 147 rfl w.heap.size 146 i0 (.agg #[.int .i64 0, .string ⟨#[]⟩, .bool false]) 3 32 Tryz.underlying147 hi hz0 hz1 hz2 rfl (by decide) (.slice p done.length c) done.length (chsCells done) (by simp [Act.eval, Act.put]) (by first | exact own_kept HR.out.2.1 (HW2.out.alloc (Obj.cells #[I ky, S vl, .bool false] 146)).drew (by simp) | exact own_kept HR.out.2.1 (HW2.out.drew.alloc (Obj.cells #[I ky, S vl, .bool false] 146)) (by simp)) ⟨W2.heap.size, 0, none⟩ 1 1 [I ky, S vl, .bool false] (by simp [Act.eval, Act.put]) rfl (by first | exact World.news_of_block (heap_new W2 (Obj.cells #[I ky, S vl, .bool false] 146)) | exact World.news_of_block (heap_new W2.drew (Obj.cells #[I ky, S vl, .bool false] 146))) (chs_one [⟨ky, vl, false⟩]) (by decide) (by unfold maxLen; omega) (by omega) (by have := (HR.out.2.2.trans' HW2.out).size; exact Nat.le_trans this (((Kept.refl [] W2).alloc (Obj.cells #[I ky, S vl, .bool false] 146)).size)) _ rfl ?_
             intro g cap wa own1 gr1 hat hlt
             have HA := Lib.hid (And.intro own1 (kept_grown gr1))
             clear own1 gr1 hat hlt))
        all_goals
          simp only [List.getElem_toArray, List.getElem_cons_succ, List.getElem_cons_zero]
          go_frame
          go_wp2
          go_roundw
          case rel =>
            obtain ⟨own1, kg⟩ := HA.out
            refine ⟨done ++ [⟨ky, vl, false⟩], todo, some ⟨g, 0, none⟩, cap, R, by rw [HR.out.1]; simp, HF.out.1, rfl, by simp, ?_, ?_⟩
            · have e : chsCells done ++ [I ky, S vl, .bool false] = chsCells (done ++ [⟨ky, vl, false⟩]) := by simp [chsCells, chCells]
              rw [e] at own1
              show World.ownsRow _ _ _ _ _ _ _
              rw [List.length_append]
              exact own1
            · refine (HR.out.2.2.trans' HW2.out).new (((Kept.refl [] W2).alloc (Obj.cells #[I ky, S vl, .bool false] 146)).drew.mono (by simp) |>.trans' kg) ?_
              intro x hx
              exact (own_lt HR.out.2.1 x (by simpa using hx)).1
          case measure =>
            show R.length < X.length
            have := HF.out.2.1
            omega
end Go.Proofs.YteplbljjlbdhaaaGreatDoor
