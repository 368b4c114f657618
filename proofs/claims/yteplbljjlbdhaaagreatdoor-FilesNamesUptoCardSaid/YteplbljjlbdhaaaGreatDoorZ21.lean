/- Walks and lemmas on the program of this seat, used by its statements; each theorem bears its own conditions. -/
import Derived.Test.YteplbljjlbdhaaaGreatDoorZ20
namespace Go.Proofs.YteplbljjlbdhaaaGreatDoor
open Go.RowKit
set_option linter.unusedVariables false
set_option linter.unusedSimpArgs false
set_option linter.unusedSectionVars false
set_option maxHeartbeats 16000000
set_option maxRecDepth 100000
theorem flX_back {n : Nat} {f g : Fl} {st : KS} {x : Bool} (h : FlX n f st x) (hlen : 512 * (1 + n) ≤ f.bs.length) (ho : Others (1 + st.D % n) f g) (hb : blockOf g.bs (1 + st.D % n) = blockOf f.bs (1 + st.D % n)) : FlX n g st x := by
 intro j hj
 have h1 := h j hj
 have e : blockOf g.bs (1 + (st.D + j) % n) = blockOf f.bs (1 + (st.D + j) % n) := by
  by_cases hj0 : (st.D + j) % n = st.D % n
  ·rw [hj0]; exact hb
  ·have := Nat.mod_lt (st.D + j) (by omega : 0 < n)
   exact ho _ (by omega) (by omega)
 rw [e]
 exact h1
theorem flX_drop {n : Nat} {f g : Fl} {s1 : KS} {rs0 : List (List Ch)} {t : List (List (List Ch))} (ht : s1.init = rs0 :: t) (hF : FlX n f s1 false) (hfew : s1.init.length + 1 ≤ n) (hlen : 512 * (1 + n) ≤ f.bs.length) (ho : Others (1 + s1.D % n) f g) (hb : JunkB (blockOf g.bs (1 + s1.D % n))) : FlX n g (dropK s1) false := by
 intro j hj
 have hil : s1.init.length = t.length + 1 := by rw [ht]; rfl
 have hm0 : s1.D % n < n := Nat.mod_lt _ (by omega)
 show match (s1.init.tail ++ [s1.last])[j]? with | some rs => ∃ u, SegIs (s1.D + 1 + j + 1) (rs.map recF) u (blockOf g.bs (1 + (s1.D + 1 + j) % n)) ∧ (j = s1.init.tail.length → u = s1.lu) | none => JunkB (blockOf g.bs (1 + (s1.D + 1 + j) % n)) ∨ (false = true ∧ j = s1.init.tail.length + 1 ∧ j + 1 = n ∧ HeadB (s1.D + 1 + j + 1) (blockOf g.bs (1 + (s1.D + 1 + j) % n)))
 rw [ht]
 by_cases hji : j = n - 1
 ·subst hji
  have e : (s1.D + 1 + (n - 1)) % n = s1.D % n := by rw [show s1.D + 1 + (n - 1) = s1.D + n by omega, Nat.add_mod_right]
  rw [e, List.getElem?_eq_none (by simp; omega)]
  exact .inl hb
 ·have h1 := hF (j + 1) (by omega)
  have hne := mod_ne (D := s1.D) (by omega : j + 1 < n) (by omega : 0 < n) (by omega : j + 1 ≠ 0)
  rw [Nat.add_zero] at hne
  have hmj : (s1.D + (j + 1)) % n < n := Nat.mod_lt _ (by omega)
  rw [← ho (1 + (s1.D + (j + 1)) % n) (by omega) (fun e => hne (Nat.add_left_cancel e))] at h1
  have e : s1.segs = rs0 :: (t ++ [s1.last]) := by unfold St.segs; rw [ht]; rfl
  rw [e, List.getElem?_cons_succ] at h1
  rw [show s1.D + 1 + j = s1.D + (j + 1) by omega]
  show match (t ++ [s1.last])[j]? with | some rs => _ | none => _
  cases hs : (t ++ [s1.last])[j]? with
  | some rs =>
   rw [hs] at h1
   obtain ⟨u, h2, h3⟩ := h1
   exact ⟨u, h2, fun e => h3 (by rw [hil, e]; rfl)⟩
  | none =>
   rw [hs] at h1
   rcases h1 with h1 | ⟨e, _⟩
   ·exact .inl h1
   ·cases e
theorem DropPost.val {lb pb fb bb cb fs n : Nat} {v : Value} {s0 : Sg} {tl : List Sg} {f : Fl} {w : World} {e : Ending} {w' : World} (h : DropPost lb pb fb bb cb fs n v s0 tl f w e w') :
  ∃ r : Int, e = .returned (I r) ∧ ((r = 0 ∧ ∃ g v', StepOK f g ∧ blockOf g.bs (fs + s0.1) = fullB ∧ Others (fs + s0.1) f g ∧ Fresh w v v' ∧ LgAt w' lb pb fb bb cb fs n v' tl g false ∧ Kept (LgT lb fb bb cb v) w w') ∨
   (r = 2 ∧ ∃ g, StepDead f g ∧ (blockOf g.bs (fs + s0.1) = blockOf f.bs (fs + s0.1) ∨ JunkB (blockOf g.bs (fs + s0.1))) ∧ Others (fs + s0.1) f g ∧ LgAt w' lb pb fb bb cb fs n v (s0 :: tl) g true ∧ Kept (LgT lb fb bb cb v) w w')) := by
 rcases h with ⟨g, a, b, c, rfl, v', d, x, y⟩ | ⟨g, a, b, c, rfl, x, y⟩
 ·exact ⟨0, rfl, .inl ⟨rfl, g, v', a, b, c, d, x, y⟩⟩
 ·exact ⟨2, rfl, .inr ⟨rfl, g, a, b, c, x, y⟩⟩
def CleanPost (sb lb pb fb bb cb mb kb n : Nat) (v : Value) (st : KS) (f : Fl) (w : World) (e : Ending) (w' : World) : Prop :=
 ∃ r : Int, e = .returned (I r) ∧ ((r = 0 ∧ ∃ v' g, Fresh w v v' ∧ SAtK w' sb lb pb fb bb cb mb kb n v' (cleanK st) g ∧ StepOK f g ∧ Kept (StT sb lb fb bb cb mb kb v) w w') ∨
  (r = 2 ∧ ∃ g, StepDead f g ∧ CrP n g st.M (st.D + 1) ∧ FlAt w' fb bb cb g ∧ Kept (StT sb lb fb bb cb mb kb v) w w'))
theorem cleans_arm (w : World) (sb lb pb fb bb cb mb kb n : Nat) (v : Value) (st : KS) (f : Fl) (h : SAtK w sb lb pb fb bb cb mb kb n v st f) (m U : Nat) (hp : CleanPreK n st m U) (hnum : st.num ≤ 900000000) :
  Calls Tryz.prog 118 #[Ptr sb] w (CleanPost sb lb pb fb bb cb mb kb n v st f w) := by
 obtain ⟨rs0, t, ht⟩ : ∃ rs0 t, st.init = rs0 :: t := by
  cases hi : st.init with
  | nil => have := hp.free; have := hp.eight; rw [hi] at *; simp at *; omega
  | cons a b => exact ⟨a, b, rfl⟩
 have hb := h.bound
 have hil : st.init.length = t.length + 1 := by rw [ht]; rfl
 have hfree := hp.free
 have h8 := hp.eight
 have hsegs : st.segs = rs0 :: (t ++ [st.last]) := by unfold St.segs; rw [ht]; rfl
 have hsl : (sgs n st.D st.segs).length = st.init.length + 1 := by rw [sgs_len, segs_len]
 have hs0 : ∀ (hh : 0 < (sgs n st.D st.segs).length), (sgs n st.D st.segs)[0] = (st.D % n, st.D + 1) := fun hh => by rw [sgs_at]; rfl
 have hrs := hp.inv.inv.recs rs0 (by simp [hsegs])
 have hrsl : rs0.length ≤ 7 := by
  have : ∀ rs : List (List Ch), rs.length ≤ usedS rs := fun rs => by
   induction rs with
   | nil => exact Nat.le_refl _
   | cons x t ih => have := pgs_pos x; simp only [List.length_cons, usedS]; omega
  have := this rs0
  omega
 obtain ⟨u0, hblk, _⟩ := flX_seg h.fl (j := 0) (by omega) (rs := rs0) (by rw [hsegs]; rfl)
 rw [Nat.add_zero] at hblk
 obtain ⟨C, hc, hct⟩ := h.core
 obtain ⟨c0, c1, c2, c3, c4, c5⟩ := hc.cells
 have HSG := Lib.hid (fun W (k : Kept [] w W) => segs_any W lb pb fb bb cb 1 n v _ f false (h.lg.same k) (by intro he; rw [he] at hsl; simp at hsl) (by rw [hsl]; omega))
 have HSG0 : Hid (∀ (W : World) (v' : Value) (B : Nat), W.ownsRow B 3 1 v' (sgs n st.D st.segs).length (((sgs n st.D st.segs).map (·.2)).map fun x : Nat => I x) → ∃ g c, v' = .slice (some ⟨g, 0, none⟩) (st.init.length + 1) c ∧ W.cell? ⟨g, 0, none⟩ = some (I (st.D + 1 : Nat))) := Lib.hid (by
  intro W v' B ow
  obtain ⟨g, c, e, _, hcc⟩ := row_cells1 ow (by omega)
  refine ⟨g, c, by rw [e, hsl], ?_⟩
  rw [hcc 0 (by omega), hsegs]
  rfl)
 have HRC := Lib.hid (fun W (k : Kept [] w W) => records_arm W lb pb fb bb cb 1 n v (sgs n st.D st.segs) f (h.lg.same k) (by rw [hsl]; omega) h.live.1 0 (by omega) (by rw [hs0]; exact Nat.mod_lt _ (by omega)) (fun j hj => by omega) (rs0.map recF) u0 (by rw [hs0]; exact hblk))
 rw [hs0] at HRC
 have HLT : Hid (∀ x ∈ [sb, mb, kb], x < w.heap.size) := Lib.hid (by
  intro x hx
  simp at hx
  rcases hx with rfl | rfl | rfl
  ·exact hc.lt
  ·exact hc.ob.lt
  ·exact hc.ct.lt)
 have HST : Hid (∀ x ∈ StT sb lb fb bb cb mb kb v, x < w.heap.size) := Lib.hid (by
  intro x hx
  have := h.lg.lt
  have := h.lg.n2
  have := h.lg.n3
  have := h.lg.n4
  simp only [StT, LgT, List.mem_append, Option.mem_toList] at hx
  rcases hx with hx | hx | hx
  ·exact HLT.out x hx
  ·simp at hx; omega
  ·exact (own_lt h.lg.own x (by simpa using hx)).2)
 have hDI : (st.D : Int) ≤ 900000000 := by unfold St.num at hnum; omega
 obtain ⟨S0, hS0⟩ : ∃ S0, st.D + 1 = S0 := ⟨_, rfl⟩
 have hkI : (st.init.length : Int) ≤ 256 := by omega
 obtain ⟨K, hK⟩ : ∃ K, st.init.length = K := ⟨_, rfl⟩
 rw [hS0, hK] at HSG0
 rw [hK] at hkI
 rw [hS0] at HRC
 have HB := Lib.hid (And.intro h (And.intro hp (And.intro ht (And.intro hnum (And.intro hS0 (And.intro hsegs (And.intro hrs hrsl)))))))
 have HC := Lib.hid (fun W (k : Kept [] w W) => (hc.same k).cells)
 have hSI : (S0 : Int) ≤ 900000001 := by omega
 clear h hp ht hb hil hfree h8 hsegs hsl hs0 hrs hblk hc hct hnum hS0 hK hDI
 have hq1 := heap_new w (Obj.cells #[Ptr sb] 73)
 have hk1 := (Kept.refl [] w).alloc (Obj.cells #[Ptr sb] 73)
 obtain ⟨b1, hb1⟩ : ∃ b1, w.heap.size = b1 := ⟨_, rfl⟩
 obtain ⟨W1, hW1⟩ : ∃ W1, w.alloc (Obj.cells #[Ptr sb] 73) = W1 := ⟨_, rfl⟩
 rw [hW1, hb1] at hq1
 rw [hW1] at hk1
 have x1 := cell_at hq1 0
 simp only [List.getElem?_toArray, List.getElem?_cons_zero] at x1
 obtain ⟨t0, t1, t2, t3, t4, t5⟩ := HC.out W1 hk1
 have HW1 := Lib.hid (And.intro hq1 (And.intro hk1 hb1))
 clear hq1 hk1
 go_enter Tryz.func118, Tryz.ntmps118
 go_wp2_with (fail)
 refine (HSG.out W1 HW1.out.2.1).mono ?_
 rintro e w2 ⟨vs, rfl, own, k2⟩
 obtain ⟨gs, cs, rfl, hcell⟩ := HSG0.out w2 vs _ own
 have HW2 := Lib.hid (And.intro (k2.at HW1.out.1 (by simp)) (HW1.out.2.1.trans' k2))
 clear own k2 c0 c1 c2 c3 c4 c5 t0 t1 t2 t3 t4 t5 x1 hW1 hb1
 go_upto_region 2 with (fail)
 have hq3 := heap_new w2 (Obj.cells #[I S0] 3)
 have hk3 := (Kept.refl [] w2).alloc (Obj.cells #[I S0] 3)
 obtain ⟨W3, hW3⟩ : ∃ W3, w2.alloc (Obj.cells #[I S0] 3) = W3 := ⟨_, rfl⟩
 rw [hW3] at hq3
 rw [hW3] at hk3
 have k03 := HW2.out.2.trans' hk3
 have hq1 := hk3.at HW2.out.1 (by simp)
 have x1d : W3.drew.cell? ⟨b1, 0, none⟩ = some (Ptr sb) := by have := cell_at hq1 0; simpa using this
 have x3d : W3.drew.cell? ⟨w2.heap.size, 0, none⟩ = some (I S0) := by have := cell_at hq3 0; simpa using this
 obtain ⟨t0, t1, t2, t3, t4, t5⟩ := HC.out W3.drew k03.drew
 have HRC3 := Lib.hid (HRC.out W3.drew k03.drew)
 have HW3 := Lib.hid (And.intro hq1 (And.intro hq3 (And.intro k03 HW2.out.2.size)))
 clear hq3 hk3 k03 hq1
 go_cut [4, 5] from 18 to 26 (fun v4 v5 wx => v5 = I 0 ∧ wx.ownsRow W3.heap.size 9 1 v4 rs0.length ((rs0.map recF).map S) ∧ Kept [] W3 wx)
 case first =>
  go_region_with (first
   | (go_at_call 145; (with_reducible refine HRC3.out.mono ?_); rintro e w4 ⟨vo, rfl, own4, k4⟩; obtain ⟨po, co, rfl⟩ := own_form own4))
  all_goals
   simp only [List.getElem_toArray, List.getElem_cons_succ, List.getElem_cons_zero]
   go_frame
   go_wp2
   go_meet
   refine ⟨rfl, ?_, (Kept.refl [] W3).drew.trans' k4⟩
   have := own4
   rw [List.length_map] at this
   exact this
 case rest =>
 obtain ⟨rfl, own4, k34⟩ := hcut
 clear x1d x3d t0 t1 t2 t3 t4 t5 hW3 hcell
 obtain ⟨pr, cr, hv4⟩ := own_form own4
 subst hv4
 have k04 := HW3.out.2.2.1.trans' k34
 have HSAT : Hid (SAtK wc sb lb pb fb bb cb mb kb n v st f) := Lib.hid (HB.out.1.same k04)
 have HROW : Hid (∀ W, Kept (StT sb lb fb bb cb mb kb v) wc W → W.cell? ⟨b1, 0, none⟩ = some (Ptr sb) ∧ W.cell? ⟨w2.heap.size, 0, none⟩ = some (I S0) ∧ (∀ i (hi : i < rs0.length), ∃ g, pr = some ⟨g, 0, none⟩ ∧ W.cell? ⟨g, i, none⟩ = some (S (recF rs0[i])))) := Lib.hid (by
  intro W k
  have hno : ∀ q, w.heap.size ≤ q → q ∉ StT sb lb fb bb cb mb kb v := fun q hq hm => by have := HST.out q hm; omega
  have h1 := k.at (k34.at HW3.out.1 (by simp)) (hno _ (by have := HW1.out.2.2; omega))
  have h3 := k.at (k34.at HW3.out.2.1 (by simp)) (hno _ HW3.out.2.2.2)
  refine ⟨by have := cell_at h1 0; simpa using this, by have := cell_at h3 0; simpa using this, fun i hi => ?_⟩
  obtain ⟨g, c, e, hbg, hcc⟩ := row_cells1 own4 (by omega)
  refine ⟨g, by injection e, ?_⟩
  have h5 := hcc i hi
  have h6 : ((rs0.map recF).map S)[i]? = some (S (recF rs0[i])) := by rw [List.getElem?_map, List.getElem?_map, List.getElem?_eq_getElem hi]; rfl
  rw [h6] at h5
  have hgs : w.heap.size ≤ g := by have := HW3.out.2.2.1.size; omega
  exact (k.cell (p := ⟨g, i, none⟩) (World.block_lt_of_cell? wc _ h5) (hno _ hgs)).trans h5)
 have HWC := Lib.hid (And.intro k04 (k04.size))
 have hrI : (rs0.length : Int) ≤ 7 := by omega
 have hnn : Hid (n ≤ 256 ∧ st.init.length + 2 = n ∧ sumA wO st.M ≤ 7 * (n - 4) / 2) := Lib.hid ⟨by have := HB.out.1.bound.1; omega, HB.out.2.1.free, HB.out.2.1.quota⟩
 clear own4 k34 k04
 go_wp2_with (fail)
 go_loopw [34] (fun vi wr => ∃ (i : Nat) (v' : Value) (f' : Fl), vi = I i ∧ i ≤ rs0.length ∧ SAtK wr sb lb pb fb bb cb mb kb n v' (cleanIK st rs0 i) f' ∧ Fresh wc v v' ∧ StepOK f f' ∧ Kept (StT sb lb fb bb cb mb kb v) wc wr) (fun vi _ => rs0.length - (intOf vi).toNat)
 case atStart => exact ⟨0, v, f, rfl, by omega, HSAT.out, Fresh.refl _ _, StepOK.refl HB.out.1.live, Kept.refl _ _⟩
 case round =>
  obtain ⟨i, v', f', rfl, hi, hsat, hfr, hcs, kr⟩ := hrel
  obtain ⟨y1, y3, yr⟩ := HROW.out wr kr
  by_cases hlt : i < rs0.length
  ·have hltI : (i : Int) < rs0.length := by omega
   have hi0 : (0 : Int) ≤ i := by omega
   obtain ⟨gr, rfl, er⟩ := yr i hlt
   have hri : rs0[i]? = some rs0[i] := List.getElem?_eq_getElem hlt
   obtain ⟨m1, m2, m3, m4⟩ := clean_mayK HB.out.2.1 HB.out.2.2.1 i rs0[i] hri
   have hfr0 : FormC rs0[i] := HB.out.2.2.2.2.2.2.1.2 _ (List.getElem_mem hlt)
   obtain ⟨R, hR⟩ : ∃ R, rs0[i] = R := ⟨_, rfl⟩
   rw [hR] at er m4 hfr0
   obtain ⟨stI, hst⟩ : ∃ x, cleanIK st rs0 i = x := ⟨_, rfl⟩
   have hsucc := cleanIK_succ st rs0 i R (by rw [hri, hR])
   rw [hst] at hsat m1 m2 m3 m4 hsucc
   rw [HB.out.2.2.2.2.1] at m4 hsucc
   obtain ⟨mi, Ui, hci⟩ := clean_atK HB.out.2.1 HB.out.2.2.1 i (by omega)
   rw [hst] at hci
   have hwt : sumA wO stI.M ≤ 100000 := by
    rw [weight_same hci.inv.inv.sorted HB.out.2.1.inv.inv.sorted hci.same]
    have := hnn.out
    omega
   obtain ⟨mj, Uj, hcj⟩ := clean_atK HB.out.2.1 HB.out.2.2.1 (i + 1) (by omega)
   have HCR : Hid (cleanIK st rs0 (i + 1) = appK stI (R.filter (keepC stI.M S0 i)) → ∀ g, AppDead n stI (R.filter (keepC stI.M S0 i)) g → CrP n g st.M (st.D + 1)) := Lib.hid (by
    intro he g hg
    rw [he] at hcj
    refine appDead_cr hg hci.inv hci.inv.inv.few hci.same hcj.same (fun hfull => ?_) (by rw [hci.d]; omega)
    have := HB.out.2.1.free
    rcases hci.way with ⟨q1, _⟩ | ⟨_, _, _, q4⟩
    ·omega
    ·exact q4)
   clear hci hcj
   have hRl : R.length ≤ 400 := by
    have : ∀ l : List Ch, l.length ≤ (recF l).length := fun l => by
     induction l with
     | nil => simp
     | cons c l ih =>
      rw [recF_cons, List.length_append, List.length_cons]
      have := chB_len c
      split at this <;> omega
    have := this R
    have := hfr0.2.2
    omega
   have HRI := Lib.hid (And.intro hsat (And.intro hfr (And.intro hcs (And.intro kr (And.intro m1 (And.intro m2 (And.intro m3 (And.intro m4 (And.intro hsucc (And.intro hfr0 (And.intro hRl hwt)))))))))))
   clear hsat hfr hcs kr m1 m2 m3 m4 hsucc hfr0 hri hst hRl hR yr hwt
   have hq6 := heap_new wr (Obj.cells #[I i] 3)
   have hk6 := (Kept.refl [] wr).alloc (Obj.cells #[I i] 3)
   obtain ⟨b6, hb6⟩ : ∃ b6, wr.heap.size = b6 := ⟨_, rfl⟩
   obtain ⟨W6, hW6⟩ : ∃ W6, wr.alloc (Obj.cells #[I i] 3) = W6 := ⟨_, rfl⟩
   rw [hW6, hb6] at hq6
   rw [hW6] at hk6
   have HPA := Lib.hid (oparse_any R (fun c hc => ⟨(HRI.out.2.2.2.2.2.2.2.2.2.1.2.1 c hc).1, (HRI.out.2.2.2.2.2.2.2.2.2.1.2.1 c hc).2.1, (HRI.out.2.2.2.2.2.2.2.2.2.1.2.1 c hc).2.2.1, (HRI.out.2.2.2.2.2.2.2.2.2.1.2.1 c hc).2.2.2⟩) (by have := HRI.out.2.2.2.2.2.2.2.2.2.1.2.2; omega) (by have := HRI.out.2.2.2.2.2.2.2.2.2.2.1; omega) W6)
   have HW6 := Lib.hid (And.intro hq6 (And.intro hk6 hb6))
   clear hq6 hk6
   go_wp2_with (fail)
   refine HPA.out.mono ?_
   rintro e w7 ⟨pp, pc, rfl, ownP, k7⟩
   obtain ⟨hsat, hfr, hcs, kr, m1, m2, m3, m4, hsucc, hfr0, hRl, hwt⟩ := HRI.out
   have k07 : Kept [] wr w7 := HW6.out.2.1.trans' k7
   have kc7 : Kept (StT sb lb fb bb cb mb kb v) wc w7 := kr.trans' (StT.sub0 k07)
   have hb66 := k7.at HW6.out.1 (by simp)
   obtain ⟨hlt1, hlt2⟩ := hsat.lt
   have hgP : ∀ q, q ∈ (Value.slice pp R.length pc).ownBlock.toList → W6.heap.size ≤ q ∧ q < w7.heap.size := fun q hq => own_lt ownP q (by simpa using hq)
   have h6s := HW6.out.2.1.size
   obtain ⟨k, hkd⟩ : ∃ k, R.filter (keepC stI.M S0 i) = k := ⟨_, rfl⟩
   rw [hkd] at m4 hsucc
   have HDF := delf_any w7 R W6.heap.size pp pc ownP (by omega) (Ptr b1) (Ptr w2.heap.size) (Ptr b6) (fun x => !keepC stI.M S0 i x) (by
    intro W kW x hx
    obtain ⟨C', hc', _⟩ := hsat.core
    have hcore : CoreAt W sb pb lb mb kb (sumA wO stI.M) stI.M C' := (hc'.same k07).kept kW (fun hm => by have := (hgP _ hm).1; have := hc'.lt; omega) (fun hm => by have := (hgP _ hm).1; have := hc'.ob.lt; omega) (fun hm => by have := (hgP _ hm).1; have := hc'.ct.lt; omega)
    obtain ⟨z1, z3, _⟩ := HROW.out W (kc7.trans kW (fun q hq => .inr (by have := (hgP q hq).1; have := kr.size; omega)))
    have h6c := cell_at (kW.at hb66 (fun hm => by have := (hgP _ hm).1; have := lt_of_block HW6.out.1; omega)) 0
    have hform := hfr0.2.1 x hx
    exact keep_any W sb pb lb mb kb _ stI.M C' hcore b1 w2.heap.size b6 S0 i (by omega) (by omega) z1 z3 (by simpa using h6c) x ⟨hform.1, hform.2.1⟩)
   rw [filter_nn, hkd] at HDF
   rw [hkd] at HCR
   have HDFH := Lib.hid HDF
   have HRJ := Lib.hid (And.intro m4 (And.intro hsucc (And.intro k07 (And.intro hgP (And.intro h6s (And.intro hkd (And.intro hlt1 hlt2)))))))
   have hkl : k.length ≤ 400 := by rw [← hkd]; exact Nat.le_trans (List.length_filter_le _ _) hRl
   clear HDF hsat hfr hcs kr m1 m2 m3 m4 hsucc hfr0 hRl hwt k07 kc7 hb66 hlt1 hlt2 hgP h6s hkd ownP k7 y1 y3 er hb6 hW6 HPA
   go_wp2_with (fail)
   refine HDFH.out.mono ?_
   rintro e w8 ⟨rfl, ownK, k8⟩
   obtain ⟨m4, hsucc, k07, hgP, h6s, hkd, hlt1, hlt2⟩ := HRJ.out
   obtain ⟨hsat, hfr, hcs, kr, m1, m2, m3, _, _, hfr0, hRl, hwt⟩ := HRI.out
   have hsat8 := (hsat.same k07).kept k8 (fun x hx => by
    have := (hgP x hx).1
    exact ⟨fun hm => by have := hlt1 x hm; omega, by omega⟩)
   have kc8 : Kept (StT sb lb fb bb cb mb kb v) wc w8 := (kr.trans' (StT.sub0 k07)).trans k8 (fun q hq => .inr (by have := (hgP q hq).1; have := kr.size; omega))
   obtain ⟨z1, z3, _⟩ := HROW.out w8 kc8
   have hklI : (k.length : Int) ≤ 400 := by omega
   by_cases hke : k = []
   ·have hk0 : k.length = 0 := by rw [hke]; rfl
    have HE := Lib.hid (And.intro hsat8 (And.intro kc8 (And.intro hfr (And.intro hcs (hsucc.trans (if_pos hke))))))
    have hk0b : ((k.length : Int) == 0) = true := by simp [hk0]
    have hk0I : (k.length : Int) = 0 := by omega
    clear hsat8 kc8 hfr hcs hsucc m4 hke hk0 hsat kr m1 m2 m3 hfr0 hRl hwt k07 hgP h6s hkd hlt1 hlt2 ownK k8 hkl
    go_wp2_with (fail)
    go_roundw
    case rel =>
     obtain ⟨q1, q2, q3, q4, q5⟩ := HE.out
     exact ⟨i + 1, v', f', by go_num, by omega, by rw [q5]; exact q1, q3, q4, q2⟩
    case measure => simp [intOf]; omega
   ·obtain ⟨hfk, hrk⟩ := m4 hke
    have hkpos := List.length_pos_iff.2 hke
    have hk0b : ((k.length : Int) == 0) = false := by simp; omega
    have hk0I : ¬ (k.length : Int) = 0 := by omega
    have hAP := oappend_arm w8 sb lb pb fb bb cb mb kb n v' stI f' hsat8 k (.slice pp k.length pc) ownK.at (fun q hq => by
     have hq2 := own_lt ownK q hq
     exact ⟨hq2.2, fun hm => by have := hlt1 q hm; omega⟩) hfk (by omega) 0 (by omega) (fun hnf => by have := hrk hnf; omega) (by
      have := m1.inv.few
      have := HB.out.2.2.2.1
      have := hnn.out
      unfold St.num at *
      omega) hwt
    have HAP := Lib.hid hAP
    have HCD := Lib.hid (HCR.out (hsucc.trans (if_neg hke)))
    have HE := Lib.hid (And.intro kc8 (And.intro hfr (And.intro hcs (And.intro (hsucc.trans (if_neg hke)) kc8.size))))
    clear hAP hsat8 kc8 hfr hcs hsucc m4 hke hsat kr m1 m2 m3 hfr0 hRl hwt k07 hgP h6s hkd hlt1 hlt2 ownK k8 hkl hfk hrk hkpos
    go_wp2_with (fail)
    refine HAP.out.mono ?_
    rintro e w9 ⟨r9, rfl, hp9⟩
    rcases hp9 with ⟨rfl, v2, f2, hfr2, hsat2, hcs2, k9⟩ | ⟨rfl, g9, hsd9, had9, hfl9, k9⟩
    case inr =>
     have H9 := Lib.hid (And.intro hsd9 (And.intro had9 (And.intro hfl9 k9)))
     clear hsd9 had9 hfl9 k9 z1 z3
     go_wp2_with (fail)
     go_ret
     obtain ⟨hsd9, had9, hfl9, k9⟩ := H9.out
     obtain ⟨q2, q3, q4, q5, q6⟩ := HE.out
     exact ⟨2, rfl, .inr ⟨rfl, g9, q4.dead hsd9, HCD.out g9 had9, hfl9, (StT.sub0 HWC.out.1).trans' (q2.trans k9 (stT_fresh q3))⟩⟩
    have H9 := Lib.hid (And.intro hfr2 (And.intro hsat2 (And.intro k9 hcs2)))
    clear hfr2 hsat2 k9 hcs2 z1 z3
    go_wp2_with (fail)
    go_roundw
    case rel =>
     obtain ⟨q2, q3, q4, q5, q6⟩ := HE.out
     obtain ⟨r1, r2, r3, r4⟩ := H9.out
     exact ⟨i + 1, v2, f2, by go_num, by omega, by rw [q5]; exact r2, fresh_trans q3 r1 q6, q4.trans r4, q2.trans r3 (stT_fresh q3)⟩
    case measure => simp [intOf]; omega
  ·have hie : i = rs0.length := by omega
   subst hie
   obtain ⟨me, Ue, hci⟩ := clean_atK HB.out.2.1 HB.out.2.2.1 rs0.length (by omega)
   have hca := clean_allK HB.out.2.1 HB.out.2.2.1
   have hcleq : cleanK st = dropK (cleanIK st rs0 rs0.length) := by unfold cleanK; rw [HB.out.2.2.1]; rfl
   obtain ⟨s1, hs1⟩ : ∃ s1, cleanIK st rs0 rs0.length = s1 := ⟨_, rfl⟩
   rw [hs1] at hsat hci hcleq
   obtain ⟨t1, ht1⟩ := hci.head
   have hd1 := hci.d
   have hinv1 := hci.inv
   have hsg1 : sgs n s1.D s1.segs = (s1.D % n, S0) :: sgs n (s1.D + 1) (t1 ++ [s1.last]) := by
    unfold St.segs
    rw [ht1, ← HB.out.2.2.2.2.1, ← hd1]
    rfl
   have hb1' := hsat.bound
   have hfew1 := hinv1.inv.few
   have hn0 : 0 < n := by omega
   obtain ⟨C', hc', hct'⟩ := hsat.core
   have hcd := hc'.same (Kept.refl [] wr).drew
   have hS0k : ((S0 : Nat) : Int) = ((s1.D + 1 : Nat) : Int) := by rw [hd1, HB.out.2.2.2.2.1]
   obtain ⟨w6, hdel, hct6, kdel⟩ := hcd.ct.drop' Tryz.underlying138 (k := (S0 : Int)) ⟨by omega, by omega⟩
   have hc6 := hcd.setC kdel hct6
   have k06 : Kept [kb] wr w6 := ((Kept.refl [kb] wr).drew).trans' kdel
   have hlg6 : LgAt w6 lb pb fb bb cb 1 n v' (sgs n s1.D s1.segs) f' false := hsat.lg.beside (w0 := wr) (sb := sb) (mb := mb) (kb := kb) (v := v') (k06.mono (by simp)) (Fresh.refl _ _) hsat.sep (fun x hx => hsat.lt.1 x (List.mem_append.2 (.inl hx)))
   rw [hsg1] at hlg6
   have ht1l : (sgs n (s1.D + 1) (t1 ++ [s1.last])).length ≤ 1000 := by
    have : s1.init.length = t1.length + 1 := by rw [ht1]; rfl
    rw [sgs_len]
    simp
    omega
   have HDR := Lib.hid (fun W (k : Kept [] w6 W) => dropOldest_arm W lb pb fb bb cb 1 n v' (s1.D % n, S0) (sgs n (s1.D + 1) (t1 ++ [s1.last])) f' (hlg6.same k) hsat.live (Nat.mod_lt _ hn0) (by rw [sgs_len]; simp) ht1l)
   have HFD : Hid (∀ g, JunkB (blockOf g.bs (1 + s1.D % n)) → Others (1 + s1.D % n) f' g → FlX n g (cleanK st) false) := Lib.hid (fun g q1 q2 => by
    rw [hcleq]
    exact flX_drop ht1 hsat.fl hfew1 hb1'.2 q2 q1)
   have HFS : Hid (∀ g, blockOf g.bs (1 + s1.D % n) = blockOf f'.bs (1 + s1.D % n) → Others (1 + s1.D % n) f' g → CrP n g st.M (st.D + 1)) := Lib.hid (fun g q1 q2 => by
    have hfg := flX_back hsat.fl hb1'.2 q2 q1
    by_cases hfull : s1.init.length + 2 ≤ n
    ·exact CrP.of hinv1 hfg hfull hci.same (by omega)
    ·refine CrP.full hinv1 hfg (by omega) ?_ (by omega)
     have := HB.out.2.1.free
     rcases hci.way with ⟨q1, _⟩ | ⟨_, _, _, q4⟩
     ·omega
     ·exact q4)
   have hct2 : CtOK (cleanK st).toSt (delA C' (S0 : Int)) := by
    rw [hcleq, hS0k]
    have := ct_drop ht1 hct' hc'.ct.srt
    show CtOK { D := s1.D + 1, init := s1.init.tail, last := s1.last, M := s1.M } _
    rw [ht1]
    exact this
   have hsegs2 : sgs n (cleanK st).D (cleanK st).segs = sgs n (s1.D + 1) (t1 ++ [s1.last]) := by
    rw [hcleq]
    show sgs n (s1.D + 1) (s1.init.tail ++ [s1.last]) = _
    rw [ht1]; rfl
   have hM2 : (cleanK st).M = s1.M := by rw [hcleq]; rfl
   obtain ⟨p0, p1, p2, p3, p4, p5⟩ := hcd.cells
   have y1d : wr.drew.cell? ⟨b1, 0, none⟩ = some (Ptr sb) := y1
   have y3d : wr.drew.cell? ⟨w2.heap.size, 0, none⟩ = some (I S0) := y3
   have kc6 : Kept (StT sb lb fb bb cb mb kb v) wc w6 := kr.trans' (k06.mono (by simp [StT]))
   have HCE6 := Lib.hid (fun W (k : Kept [] w6 W) => And.intro (hc6.same k).cells (HROW.out W (kc6.trans' (StT.sub0 k))).1)
   have HEND := Lib.hid (And.intro hc6 (And.intro hct2 (And.intro hcs (And.intro hsegs2 (And.intro hM2 (And.intro hca (And.intro hsat (And.intro hfr kc6))))))))
   clear hci hca hcleq hs1 hd1 hinv1 hsg1 hb1' hfew1 hn0 hc' hct' hcd hct6 kdel hc6 k06 hlg6 ht1l hct2 hsegs2 hM2 y1 y3 yr kr hsat hfr hcs kc6 ht1 hS0k
   go_upto_region 15 with (fail)
   go_cut [] from 57 to 61 (fun wx => wx = w6)
   case first =>
    go_region_law (refine step_del rfl (.tmp 60) (.tmp 61) 138 3 rfl (by simp [Act.eval, Act.put]) (by simp [Act.eval, Act.put]) hdel ?_)
    all_goals
     go_wp2
     go_meet
     rfl
   case rest =>
   have hwc6 : wc = w6 := hcut
   subst hwc6
   clear p0 p1 p2 p3 p4 p5 y1d y3d
   obtain ⟨⟨p0, p1, p2, p3, p4, p5⟩, z1⟩ := HCE6.out _ (Kept.refl _ _).drew
   go_upto_region 16 with (fail)
   have HSP : Hid (∀ x ∈ [sb, mb, kb], x ∉ LgT lb fb bb cb v' ∧ x ≠ pb) := Lib.hid (sep_fresh HEND.out.2.2.2.2.2.2.2.1 HSAT.out.sep (fun x hx => Nat.lt_of_lt_of_le (HLT.out x hx) HWC.out.2))
   go_region_with (first
    | (go_at_call 149; (with_reducible refine (HDR.out _ (Kept.refl _ _).drew).mono ?_); intro e w7 hp7; obtain ⟨r7, rfl, hv7⟩ := hp7.val; have hr7 : r7 = 0 ∨ r7 = 2 := (hv7.imp And.left And.left); have k7 : Kept (LgT lb fb bb cb v') _ w7 := (hv7.elim (fun ⟨_, _, _, _, _, _, _, _, k⟩ => k) (fun ⟨_, _, _, _, _, _, k⟩ => k)); have hc7 := (HEND.out.1.same (Kept.refl _ _).drew).kept k7 (HSP.out _ (by simp)).1 (HSP.out _ (by simp)).1 (HSP.out _ (by simp)).1; have z2 := (HROW.out w7 ((HEND.out.2.2.2.2.2.2.2.2.trans' (StT.sub0 (Kept.refl _ _).drew)).trans (StT.subL (sb := sb) (mb := mb) (kb := kb) k7) (stT_fresh HEND.out.2.2.2.2.2.2.2.1))).1; have HV7 := Lib.hid (And.intro hv7 k7); clear hv7 hp7)
    | (go_at_call 112; (with_reducible refine (stold_r _ sb pb lb mb kb _ _ _ hc7 r7 hr7).mono ?_); rintro e w8 ⟨rfl, k8, hc8⟩; have HC8 := Lib.hid hc8; clear hc8))
   all_goals
    go_wp2
    go_ret
    obtain ⟨g1, g3, g4, g6, g7, g8, g9, g10, g11⟩ := HEND.out
    have hltw : ∀ x ∈ [sb, mb, kb], x < _ := fun x hx => Nat.lt_of_lt_of_le (HLT.out x hx) HWC.out.2
    have hsz : _ ≤ _ := g11.size
    have hlt2 : ∀ x ∈ [sb, mb, kb], x < _ := fun x hx => Nat.lt_of_lt_of_le (hltw x hx) hsz
    have kfin := (StT.sub0 HWC.out.1).trans' (((g11.trans' (StT.sub0 (Kept.refl _ _).drew)).trans (StT.subL (sb := sb) (mb := mb) (kb := kb) HV7.out.2) (stT_fresh g10)).trans' (StT.subC (k8.mono (by simp))))
    refine ⟨r7, rfl, ?_⟩
    rcases HV7.out.1 with ⟨e0, g, v2, a1, a2, a3, hfr2, hlg2, _⟩ | ⟨e0, g, a1, a2, a3, hlg2, _⟩
    ·have hlgf := hlg2.beside (sb := sb) (mb := mb) (kb := kb) (k8.mono (by simp)) hfr2 HSP.out hlt2
     rw [← g6] at hlgf
     have hc8 := HC8.out e0
     rw [← g7] at hc8
     exact .inl ⟨e0, v2, g, fresh_trans (fresh_mono g10 HWC.out.2) hfr2 (Nat.le_trans HWC.out.2 hsz), ⟨hlgf, ⟨_, hc8, g3⟩, HFD.out g (by rw [a2]; exact junk_full) a3, g8.1, a1.arm, sep_fresh hfr2 HSP.out hlt2⟩, g4.trans a1, kfin⟩
    ·have hsp := (HSP.out sb (by simp)).1
     simp [LgT] at hsp
     refine .inr ⟨e0, g, g4.dead a1, ?_, hlg2.pt.fl.kept k8 (by simp; omega) (by simp; omega) (by simp; omega), kfin⟩
     rcases a2 with a2 | a2
     ·exact HFS.out g a2 a3
     ·exact CrP.of g8.1 (HFD.out g a2 a3) g8.2.2.1 g8.2.2.2.1 (by rw [g8.2.1]; omega)
end Go.Proofs.YteplbljjlbdhaaaGreatDoor
