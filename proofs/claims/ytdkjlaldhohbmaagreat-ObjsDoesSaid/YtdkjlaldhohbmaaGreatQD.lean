/- Walks and lemmas on the program of this seat, used by its statements; each theorem bears its own conditions. -/
import Derived.Test.YtdkjlaldhohbmaaGreatQC
import Derived.Handy
import Derived.OwnWalk
import Derived.Deep.AppendLies
import Derived.IntWalk
import Derived.Deep.CutRange
import Derived.Deep.RegionHeld3
import Derived.Deep.RegionLaw
import Derived.Maps.OwnSet
import Derived.Maps.Range
import Derived.Deep.OwnRows
namespace Go.Proofs.YtdkjlaldhohbmaaGreat
open Go.RowKit
set_option linter.unusedVariables false
set_option linter.unusedSimpArgs false
set_option maxHeartbeats 8000000
set_option maxRecDepth 100000
/-! ### objs.Open -/
theorem form_zero (l : List Ch) : ∀ (last : Int), RisesC l → (∀ c ∈ l, last < c.key ∧ 1 ≤ c.key ∧ c.key ≤ 2147483647 ∧ c.val.length ≤ 256 ∧ (c.drop = true → c.val = [])) → formG last l = 0 := by
  induction l with
  | nil => intro last _ _; rfl
  | cons c l ih =>
    intro last hr h
    obtain ⟨h1, h2⟩ := List.pairwise_cons.1 hr
    obtain ⟨a1, a2, a3, a4, a5⟩ := h c List.mem_cons_self
    unfold formG
    rw [if_neg (by omega), if_neg (by
      rintro (q | ⟨q1, q2⟩)
      · omega
      · exact q2 (a5 q1))]
    exact ih c.key h2 (fun d hd => ⟨h1 d hd, (h d (List.mem_cons_of_mem _ hd)).2⟩)
theorem formC_zero {l : List Ch} (h : FormC l) : formF l = 0 := form_zero l 0 h.1 (fun c hc => ⟨by have := (h.2.1 c hc).1; omega, h.2.1 c hc⟩)
theorem formC_len {l : List Ch} (h : FormC l) : l.length ≤ 400 := by
  have : ∀ l : List Ch, l.length ≤ (recF l).length := fun l => by
    induction l with
    | nil => simp
    | cons c l ih =>
      rw [recF_cons, List.length_append, List.length_cons]
      have := chB_len c
      split at this <;> omega
  have := this l
  have := h.2.2
  omega
def SOpen (w : World) (pb fb bb cb n : Nat) (st : St) (f : Fl) (e : Ending) (w' : World) : Prop :=
  ∃ sb lb mb kb v, e = .returned (.tuple #[Ptr sb, I 0]) ∧ SAt w' sb lb pb fb bb cb mb kb n v st f ∧ w.heap.size ≤ sb ∧ w.heap.size ≤ lb ∧ w.heap.size ≤ mb ∧ w.heap.size ≤ kb ∧ (∀ q, v.ownBlock = some q → w.heap.size ≤ q) ∧ Kept [] w w'
set_option maxHeartbeats 8000000 in
theorem oopen_any (w : World) (pb fb bb cb n : Nat) (f : Fl) (st : St) (h : PtAt w pb fb bb cb 1 n f) (hd : f.dead = false) (ha : f.armed = 0) (h8 : 8 ≤ n) (hF : FlOK n f st) (hI : InvS n st) (hfree : st.init.length + 2 ≤ n) (hq : sumA wO st.M ≤ quotaF n) (hD : st.D ≤ 900000000) :
    Calls Tryz.prog 28 #[Ptr pb] w (SOpen w pb fb bb cb n st f) := by
  have HS := Lib.hid (size_any w pb fb bb cb 1 n f h)
  have hb := h.bound
  have hsl := segs_len st
  have HL := Lib.hid (lopen_any w pb fb bb cb 1 n f h hd (by omega) st.D st.segs (by omega) (by omega) (by omega) (heads_ok (by omega) hF (by omega)))
  obtain ⟨L, hL⟩ : ∃ L, st.segs.length = L := ⟨_, rfl⟩
  have hLn : L + 1 ≤ n := by omega
  have hsg : (sgs n st.D st.segs).length = L := by rw [sgs_len, hL]
  have HFR := Lib.hid (fun W lb v (l : LgAt W lb pb fb bb cb 1 n v (sgs n st.D st.segs) f false) => by
    have := free_any W lb pb fb bb cb 1 n v _ f false l (by rw [hsg]; omega)
    rw [hsg] at this
    exact this)
  have HSG := Lib.hid (fun W lb v (l : LgAt W lb pb fb bb cb 1 n v (sgs n st.D st.segs) f false) => by
    have := segs_any W lb pb fb bb cb 1 n v _ f false l (by intro he; rw [he] at hsg; simp at hsg; omega) (by rw [hsg]; omega)
    rw [hsg] at this
    exact this)
  have HRC := Lib.hid (fun W lb v (l : LgAt W lb pb fb bb cb 1 n v (sgs n st.D st.segs) f false) j rs (hj : st.segs[j]? = some rs) => by
    have hjl := (List.getElem?_eq_some_iff.1 hj).1
    have hjs : j < (sgs n st.D st.segs).length := by omega
    have hat := sgs_at n st.segs st.D j hjs
    have hrs := hI.recs rs (List.mem_of_getElem? hj)
    have := records_any W lb pb fb bb cb 1 n v (sgs n st.D st.segs) f l (by rw [hsg]; omega) hd j hjs (by rw [hat]; exact Nat.mod_lt _ (by omega)) (fun i hi => by rw [sgs_at, hat]; simp; omega) (rs.map recF) (recs400 hI (List.mem_of_getElem? hj)) (by rw [usedS_eq]; exact hrs.1) (by rw [hat]; have := hF j (by omega); rw [hj] at this; exact this)
    rw [hat, List.length_map] at this
    exact this)
  obtain ⟨N, hN⟩ : ∃ N : Nat, n * 512 = N := ⟨_, rfl⟩
  rw [hN] at HS
  have hNI : ¬ (N : Int) < 4096 := by omega
  have hnL : ¬ (n : Int) - L = 0 := by omega
  have hnL2 : ((n : Int) - L == 0) = false := by simpa using hnL
  have hnI : (n : Int) ≤ 256 := by omega
  have hLI : (L : Int) ≤ n := by omega
  have HH := Lib.hid (And.intro h (And.intro hd (And.intro ha (And.intro h8 (And.intro hF (And.intro hI (And.intro hfree (And.intro hq (And.intro hD (And.intro hL (And.intro hLn hb.1)))))))))))
  clear h hd ha h8 hF hI hfree hq hD hb hsl hsg hN hLn hL
  go_enter Tryz.func28, Tryz.ntmps28
  go_wp2_with (fail)
  refine HS.out.mono ?_
  rintro e w1 ⟨rfl, rfl⟩
  go_wp2_with (fail)
  refine HL.out.mono ?_
  rintro e w2 ⟨lb, v, hlb, rfl, hlg, hv, k2⟩
  have H2 := Lib.hid (And.intro hlb (And.intro hlg (And.intro hv k2)))
  clear hlb hlg hv k2
  go_wp2_with (fail)
  refine (HFR.out w2 lb v H2.out.2.1).mono ?_
  rintro e w3 ⟨rfl, k3⟩
  have H3 := Lib.hid (And.intro (H2.out.2.1.same k3) (H2.out.2.2.2.trans' k3))
  have hs3 := k3.size
  have HS3 := Lib.hid hs3
  clear k3 hs3
  have m1 : (Instr.makeMap 66 none).run Tryz.prog w3 = .ok (.map (some w3.heap.size)) (w3.alloc (.map #[] 0)) := rfl
  have m2 : (Instr.makeMap 67 none).run Tryz.prog (w3.alloc (.map #[] 0)) = .ok (.map (some (w3.heap.size + 1))) ((w3.alloc (.map #[] 0)).alloc (.map #[] 0)) := by rw [← World.size_alloc]; rfl
  obtain ⟨W1, hW1⟩ : ∃ W1, w3.alloc (.map #[] 0) = W1 := ⟨_, rfl⟩
  have s1 : W1.heap.size = w3.heap.size + 1 := by rw [← hW1, World.size_alloc]
  have o1 : ObAt W1 w3.heap.size [] := by rw [← hW1]; exact amap_made w3
  have kA : Kept [] w3 W1 := by rw [← hW1]; exact (Kept.refl [] w3).alloc _
  obtain ⟨W2, hW2⟩ : ∃ W2, W1.alloc (.map #[] 0) = W2 := ⟨_, rfl⟩
  have s2 : W2.heap.size = w3.heap.size + 2 := by rw [← hW2, World.size_alloc, s1]
  have o2 : CtAt W2 (w3.heap.size + 1) [] := by rw [← hW2, ← s1]; exact amap_made W1
  have kB : Kept [] W1 W2 := by rw [← hW2]; exact (Kept.refl [] W1).alloc _
  obtain ⟨W3, hW3⟩ : ∃ W3, W2.alloc (.cells #[Ptr pb, Ptr lb, .map (some w3.heap.size), .map (some (w3.heap.size + 1)), I 0, .bool false] 69) = W3 := ⟨_, rfl⟩
  have hb3 : W3.heap[w3.heap.size + 2]? = some (.cells #[Ptr pb, Ptr lb, .map (some w3.heap.size), .map (some (w3.heap.size + 1)), I 0, .bool false] 69 (0, 0)) := by rw [← hW3, ← s2]; exact heap_new W2 _
  have kC : Kept [] W2 W3 := by rw [← hW3]; exact (Kept.refl [] W2).alloc _
  obtain ⟨mb, hmb⟩ : ∃ mb, w3.heap.size = mb := ⟨_, rfl⟩
  rw [hmb] at o1 o2 hb3 m1 m2 s1 s2
  rw [hW1] at m1 m2
  rw [hW2] at m2
  have hcore : CoreAt W3 (mb + 2) pb lb mb (mb + 1) (sumA wO ([] : OM)) [] [] := ⟨hb3, o1.same (kB.trans' kC), o2.same kC, by omega, by omega, by omega⟩
  have HC3 := Lib.hid (And.intro hcore (And.intro (H3.out.1.same ((kA.trans' kB).trans' kC)) (And.intro (H3.out.2.trans' ((kA.trans' kB).trans' kC)) (And.intro hmb s2))))
  clear hcore o1 o2 hb3 kA kB kC s1
  go_wp2_with (fail)
  rw [show W2.alloc (Obj.cells #[Ptr pb, Ptr lb, .map (some mb), .map (some (mb + 1)), .int .i64 0, .bool false] 69) = W3 from by rw [← hW3, hmb]]
  refine (HSG.out W3 lb v HC3.out.2.1).mono ?_
  rintro e w4 ⟨vs, rfl, own4, k4⟩
  obtain ⟨gs, cs, rfl, hgs, hcs⟩ := row_cells1 own4 (by have := HH.out.2.2.2.2.2.2.2.2.2.1; have := segs_len st; omega)
  have hrow : ∀ j, j < L → w4.cell? ⟨gs, j, none⟩ = some (I (st.D + j + 1 : Nat)) := by
    intro j hj
    rw [hcs j hj, sgs_nums, HH.out.2.2.2.2.2.2.2.2.2.1, List.getElem?_map, List.getElem?_map, List.getElem?_range hj]
    rfl
  have hgs2 : mb + 3 < gs := by
    have : W3.heap.size = mb + 3 := by rw [← hW3, World.size_alloc]; omega
    omega
  have H4 := Lib.hid (And.intro (HC3.out.1.same k4) (And.intro (HC3.out.2.1.same k4) (And.intro (HC3.out.2.2.1.trans' k4) (And.intro hrow (And.intro hgs2 (lt_of_block HC3.out.1.blk))))))
  clear own4 hcs k4 hrow hgs2 m1 m2 hW1 hW2 hW3 s2 hmb HSG
  go_wp2_with (fail)
  go_loopw [46] (fun v46 wr => ∃ (j : Nat) (C : List (Int × Nat)), j ≤ L ∧ v46 = I j ∧ CoreAt wr (mb + 2) pb lb mb (mb + 1) (sumA wO (repS (st.D + 1) (st.segs.take j) [])) (repS (st.D + 1) (st.segs.take j) []) C ∧ CtPart st.D L st.segs j 0 C ∧ Kept [mb + 2, mb, mb + 1] w4 wr) (fun v46 _ => L - (intOf v46).toNat)
  case atStart => exact ⟨0, [], Nat.zero_le _, rfl, H4.out.1, CtPart.zero _ _ _, Kept.refl _ _⟩
  case round =>
    obtain ⟨j, C, hj, rfl, hcore, hct, kr⟩ := hrel
    have hlo : mb + 2 < w4.heap.size ∧ lb < mb := by
      have h1 := H4.out.2.2.2.2.2
      have h2 := H3.out.1.lt
      have h3 := HC3.out.2.2.2.1
      have := H4.out.1.lt
      omega
    have hlg : LgAt wr lb pb fb bb cb 1 n v (sgs n st.D st.segs) f false := by
      have hl := H4.out.2.1
      have h3 := H3.out.1
      have h4 := HC3.out.2.2.2.1
      refine hl.kept kr (by simp; omega) (by have := hl.n1; simp; omega) (by have := hl.n2; simp; omega) (by have := hl.n3; simp; omega) (by have := hl.n4; simp; omega) (fun q hq hm => ?_)
      have := (own_lt h3.own q hq).2
      simp at hm
      omega
    by_cases hlt : j < L
    · have hltI : (j : Int) < L := by omega
      obtain ⟨rs, hrs⟩ : ∃ rs, st.segs[j]? = some rs := ⟨_, List.getElem?_eq_getElem (by have := HH.out.2.2.2.2.2.2.2.2.2.1; omega)⟩
      have hc9 := (kr.cell (p := ⟨gs, j, none⟩) (World.block_lt_of_cell? w4 _ (H4.out.2.2.2.1 j hlt)) (by have := H4.out.2.2.2.2.1; simp; omega)).trans (H4.out.2.2.2.1 j hlt)
      have HR := Lib.hid (HRC.out wr lb v hlg j rs hrs)
      obtain ⟨SN, hSN⟩ : ∃ SN, st.D + j + 1 = SN := ⟨_, rfl⟩
      have hrs7 := HH.out.2.2.2.2.2.1.recs rs (List.mem_of_getElem? hrs)
      have hrl : rs.length ≤ 7 := by
        have : ∀ rs : List (List Ch), rs.length ≤ usedS rs := fun rs => by
          induction rs with
          | nil => exact Nat.le_refl _
          | cons x t ih => have := pgs_pos x; simp only [List.length_cons, usedS]; omega
        have := this rs
        omega
      obtain ⟨Mj, hMj⟩ : ∃ Mj, repS (st.D + 1) (st.segs.take j) [] = Mj := ⟨_, rfl⟩
      have hMnext : repS (st.D + 1) (st.segs.take (j + 1)) [] = repR SN rs 0 Mj := by rw [repS_take _ _ _ j rs hrs, hMj, show st.D + 1 + j = SN by omega]
      have hMs : SortedA Mj := by rw [← hMj]; exact repS_sorted _ _ _ List.Pairwise.nil
      have hMv : Vals256 Mj := by
        have : ∀ (t : List (List (List Ch))) (num : Nat) (M : OM), (∀ r ∈ t, ∀ l ∈ r, ∀ c ∈ l, c.val.length ≤ 256) → SortedA M → Vals256 M → Vals256 (repS num t M) := fun t => by
          induction t with
          | nil => intro num M _ _ h; exact h
          | cons r t ih => intro num M h1 h2 h3; exact ih (num + 1) _ (fun x hx => h1 x (List.mem_cons_of_mem _ hx)) (repR_sorted _ _ _ _ h2) (repR_vals num r 0 (h1 r List.mem_cons_self) h2 h3)
        rw [← hMj]
        refine this _ _ _ (fun r hr l hl c hc => ?_) List.Pairwise.nil (fun k o ho => by cases ho)
        exact (((HH.out.2.2.2.2.2.1.recs r (List.mem_of_mem_take hr)).2 l hl).2.1 c hc).2.2.1
      have hMw : sumA wO Mj ≤ 63 * 256 := by
        rw [← hMj]
        have := repS_sum (st.segs.take j) (st.D + 1) (M := []) List.Pairwise.nil (fun r hr => (HH.out.2.2.2.2.2.1.recs r (List.mem_of_mem_take hr)).1)
        rw [List.length_take] at this
        have e0 : sumA wO ([] : OM) = 0 := rfl
        omega
      rw [hSN] at HR hc9
      rw [hMj] at hcore
      have hSNI : (SN : Int) ≤ 1000000000 := by have := HH.out.2.2.2.2.2.2.2.2.1; omega
      have HX := Lib.hid (And.intro hcore (And.intro hct (And.intro kr (And.intro hrs (And.intro hrs7 (And.intro hrl (And.intro hMnext (And.intro hMs (And.intro hMv (And.intro hMw (And.intro hSN hlo)))))))))))
      clear hcore hct kr hlg hrs hrs7 hrl hMnext hMs hMv hMw hSN hMj hlo
      go_wp2_with (fail)
      refine HR.out.mono ?_
      rintro e w5 ⟨vo, rfl, own5, k5⟩
      obtain ⟨p5, c5, rfl⟩ := own_form own5
      have H5 := Lib.hid (And.intro own5 k5)
      clear own5 k5
      go_wp2_with (fail)
      obtain ⟨CJ, hCJ⟩ : ∃ CJ, C = CJ := ⟨_, rfl⟩
      subst hCJ
      have hrI : (rs.length : Int) ≤ 7 := by have := HX.out.2.2.2.2.2.1; omega
      have HK5 : Hid (Kept [mb + 2, mb, mb + 1] w4 w5) := Lib.hid (HX.out.2.2.1.trans' (H5.out.2.mono (by simp)))
      go_loopw [62] (fun v62 wx => ∃ (i : Nat) (D : List (Int × Nat)), i ≤ rs.length ∧ v62 = I i ∧ CoreAt wx (mb + 2) pb lb mb (mb + 1) (sumA wO (repR SN (rs.take i) 0 Mj)) (repR SN (rs.take i) 0 Mj) D ∧ CtPart st.D L st.segs j i D ∧ Kept [mb + 2, mb, mb + 1] w5 wx) (fun v62 _ => rs.length - (intOf v62).toNat)
      case atStart => exact ⟨0, C, Nat.zero_le _, rfl, HX.out.1.same H5.out.2, HX.out.2.1, Kept.refl _ _⟩
      case round =>
        obtain ⟨i, D, hi, rfl, hcore, hct, kx⟩ := hrel
        by_cases hil : i < rs.length
        · have hilI : (i : Int) < rs.length := by omega
          obtain ⟨g5, c5', e5, hg5, hc5⟩ := row_cells1 H5.out.1 (by omega)
          cases e5
          have d5 := hc5 i hil
          rw [List.getElem?_map, List.getElem?_map, List.getElem?_eq_getElem hil] at d5
          simp only [Option.map_some] at d5
          obtain ⟨R, hR⟩ : ∃ R, rs[i] = R := ⟨_, rfl⟩
          have hRi : rs[i]? = some R := by rw [List.getElem?_eq_getElem hil, hR]
          rw [hR] at d5
          have hFR : FormC R := HX.out.2.2.2.2.1.2 R (List.mem_of_getElem? hRi)
          have hlo := HX.out.2.2.2.2.2.2.2.2.2.2.2
          have hw4 := HX.out.2.2.1.size
          have d6 := (kx.cell (p := ⟨g5, i, none⟩) (World.block_lt_of_cell? w5 _ d5) (by simp; omega)).trans d5
          have HP := Lib.hid (fun W => oparse_any R (fun c hc => hFR.2.1 c hc) (by have := hFR.2.2; omega) (by have := formC_len hFR; omega) W)
          have HFO := Lib.hid (fun W cv (hv : ChsAt W cv R) => by
            have := form_any R cv W hv (by have := formC_len hFR; omega)
            rw [formC_zero hFR] at this
            exact this)
          have hms := repR_sorted SN (rs.take i) 0 Mj HX.out.2.2.2.2.2.2.2.1
          have hmv := repR_vals SN (rs.take i) 0 (fun l hl c hc => ((HX.out.2.2.2.2.1.2 l (List.mem_of_mem_take hl)).2.1 c hc).2.2.1) HX.out.2.2.2.2.2.2.2.1 HX.out.2.2.2.2.2.2.2.2.1
          have hmw : sumA wO (repR SN (rs.take i) 0 Mj) ≤ 63 * 257 := by
            have h1 := repR_sum SN (rs.take i) 0 (M := Mj) HX.out.2.2.2.2.2.2.2.1
            have h2 := usedS_take rs i
            have h3 := HX.out.2.2.2.2.1.1
            have h4 := HX.out.2.2.2.2.2.2.2.2.2.1
            omega
          have hnext := repR_take SN rs Mj i R hRi
          obtain ⟨Mi, hMi⟩ : ∃ Mi, repR SN (rs.take i) 0 Mj = Mi := ⟨_, rfl⟩
          rw [hMi] at hcore hms hmv hmw hnext
          have hcl := hct.few hcore.ct.srt
          have hjL : j < L := hlt
          have hSN := HX.out.2.2.2.2.2.2.2.2.2.2.1
          have hnow := hct.now
          rw [hSN] at hnow
          have hstep := hct.step hcore.ct.srt hjL
          rw [hSN] at hstep
          have HTK := Lib.hid (fun W (k : Kept [] wr W) cv (hv : ChsAt W cv R) (hq : ∀ q, cv.ownBlock = some q → q ∉ [mb + 2, mb, mb + 1]) => takes_any W (mb + 2) pb lb mb (mb + 1) Mi D (hcore.same k) R cv hv hq (by have := formC_len hFR; omega) (fun c hc => ⟨(hFR.2.1 c hc).1, (hFR.2.1 c hc).2.1, (hFR.2.1 c hc).2.2.1⟩) hmv (by omega) SN i (by have := HH.out.2.2.2.2.2.2.2.2.1; omega) hnow (by have := HX.out.2.2.2.2.2.1; omega) (by have := HH.out.2.2.2.2.2.2.2.2.2.2; omega))
          have HY := Lib.hid (And.intro hstep (And.intro kx (And.intro hnext (And.intro hlo hw4))))
          clear hcore hct kx hc5 d5 hR hRi hFR hlo hw4 hms hmv hmw hnext hMi hcl hSN hnow hstep
          obtain ⟨RB, hRB⟩ : ∃ RB, recF R = RB := ⟨_, rfl⟩
          rw [hRB] at d6 HP
          clear hRB
          go_wp2_with (fail)
          refine (HP.out _).mono ?_
          rintro e w6 ⟨p6, c6, rfl, own6, k6⟩
          have hch := own6.at
          have H6 := Lib.hid (And.intro own6 (And.intro k6 hch))
          clear own6 k6 hch
          go_wp2_with (fail)
          refine (HFO.out w6 _ H6.out.2.2).mono ?_
          rintro e w7 ⟨rfl, k7⟩
          have HT7 := Lib.hid (HTK.out w7 (H6.out.2.1.trans' k7) _ (H6.out.2.2.same k7) (fun q hq hm => by
            have h1 := (own_lt H6.out.1 q hq).1
            have h2 := HY.out.2.1.size
            have h3 := HY.out.2.2.2.2
            have h4 := HY.out.2.2.2.1
            have h5 := H5.out.2.size
            simp at hm
            omega))
          have K7 := Lib.hid (H6.out.2.1.trans' k7)
          clear k7
          go_wp2_with (fail)
          refine HT7.out.mono ?_
          rintro e w8 ⟨rfl, hc8, k8⟩
          have H8 := Lib.hid (And.intro hc8 k8)
          clear hc8 k8
          go_wp2_with (fail)
          go_roundw
          case rel => exact ⟨i + 1, _, by omega, by go_num, by rw [HY.out.2.2.1]; exact H8.out.1, HY.out.1, (HY.out.2.1.trans' (K7.out.mono (by simp))).trans' H8.out.2⟩
          case measure => simp [intOf]; omega
        · have hie : i = rs.length := by omega
          subst hie
          rw [List.take_length] at hcore
          have HE := Lib.hid (And.intro hcore (And.intro hct kx))
          clear hcore hct kx hil hi
          go_wp2_with (fail)
          go_roundw
          case rel => exact ⟨j + 1, D, by omega, by go_num, by rw [HX.out.2.2.2.2.2.2.1]; exact HE.out.1, HE.out.2.1.next HX.out.2.2.2.1, HK5.out.trans' HE.out.2.2⟩
          case measure => simp [intOf]; omega
    · have hje : j = L := by omega
      subst hje
      obtain ⟨h, hd, ha, h8, hF, hI, hfree, hq, hD, hL, hLn, hb⟩ := HH.out
      have hrep : repS (st.D + 1) (st.segs.take j) [] = st.M := by rw [← hL, List.take_length]; exact hI.rep
      rw [hrep] at hcore
      have hct2 : CtOK st C := by
        have hct3 : CtPart st.D st.segs.length st.segs j 0 C := by rw [hL]; exact hct
        refine CtPart.all (st := st) ?_
        rw [hL]
        exact hct
      have HQ := Lib.hid (fun W (k : Kept [] wr W) => oquota_any W (mb + 2) pb lb mb (mb + 1) fb bb cb n _ st.M C (hcore.same k) f (hlg.same k).pt h8)
      have c4 := hcore.cells.2.2.2.2.1
      have hfz := hcore.free
      have hsep : ∀ x, x ∈ [mb + 2, mb, mb + 1] → x ∉ LgT lb fb bb cb v ∧ x ≠ pb := by
        intro x hx
        have h3 := H3.out.1
        have h4 := HC3.out.2.2.2.1
        have e1 := hlg.n1
        have e2 := hlg.n2
        have e3 := hlg.n3
        have e4 := hlg.n4
        have hxm : mb ≤ x := by simp at hx; omega
        refine ⟨fun hm => ?_, by omega⟩
        simp only [LgT, List.mem_append, Option.mem_toList] at hm
        rcases hm with hm | hm
        · simp at hm; omega
        · have := (own_lt h3.own x (by simpa using hm)).2
          omega
      have HFIN : Hid (∀ W, Kept [] wr W → SOpen w1 pb fb bb cb n st f (.returned (.tuple #[Ptr (mb + 2), I 0])) W) := Lib.hid (fun W k => by
        have h4 := HC3.out.2.2.2.1
        have h2 := H2.out
        have hsz := h2.2.2.2.size
        have hsz3 := HS3.out
        refine ⟨mb + 2, lb, mb, mb + 1, v, rfl, ⟨hlg.same k, ⟨C, hcore.same k, hct2⟩, hF, hI, ⟨hd, ha⟩, hsep⟩, by omega, h2.1, by omega, by omega, h2.2.2.1, ?_⟩
        exact (H4.out.2.2.1.new kr (fun x hx => by simp at hx; omega)).trans' k)
      obtain ⟨X, hX⟩ : ∃ X, sumA wO st.M = X := ⟨_, rfl⟩
      obtain ⟨Q, hQ⟩ : ∃ Q, quotaF n = Q := ⟨_, rfl⟩
      rw [hX] at c4 hq
      rw [hQ] at HQ hq
      have hle : (X : Int) ≤ Q := by omega
      have hld : decide ((Q : Int) < X) = false := decide_eq_false (by omega)
      have hld2 : decide (Q < X) = false := decide_eq_false (by omega)
      clear h hd ha h8 hF hI hfree hq hD hL hLn hb hrep hcore hct hct2 hsep hlg kr hX hQ hlt
      go_wp2_with (fail)
      go_quiet ((go_at_call 13; exact Calls.quiet_of_same (HQ.out _ ((Kept.refl [] wr).drewN _))))
      go_wp2_with (fail)
      go_ret2
      exact HFIN.out _ ((Kept.refl [] wr).drewN nq)
end Go.Proofs.YtdkjlaldhohbmaaGreat
