/- Walks and lemmas on the program of this seat, used by its statements; each theorem bears its own conditions. -/
import Derived.Test.YtncdfaocemfgfaaGreatXOK
import Derived.Handy
import Derived.OwnWalk
import Derived.Deep.AppendLies
import Derived.IntWalk
import Derived.Deep.CutRange
import Derived.Deep.RegionHeld3
import Derived.Deep.RegionLaw
import Derived.Shelf.SlicesQ.IndexFunc
namespace Go.Proofs.YtncdfaocemfgfaaGreat
open Go.RowKit
set_option linter.unusedVariables false
set_option linter.unusedSimpArgs false
section
set_option maxHeartbeats 8000000
set_option maxRecDepth 100000
/-! ### Records' predicate -/
theorem recp_any (W : World) (b num t : Int) (g : Nat) (hg : W.cell? ⟨g, 0, none⟩ = some (I t)) :
    Calls Tryz.prog 75 #[.agg #[I b, I num], Ptr g] W fun e w' => e = .returned (.bool (num == t)) ∧ w' = W.alloc (.cells #[I b, I num] 98) := by
  have hlt := World.block_lt_of_cell? W _ hg
  have hg2 : (W.alloc (Obj.cells #[I b, I num] 98)).cell? ⟨g, 0, none⟩ = some (I t) :=
    (((Kept.refl [] W).alloc _).cell hlt (by simp)).trans hg
  have hnw := heap_new W (Obj.cells #[I b, I num] 98)
  have e1 := cell_at hnw 1
  simp only [List.getElem?_toArray, List.getElem?_cons_zero, List.getElem?_cons_succ] at e1
  clear hnw hlt
  go_enter Tryz.func75, Tryz.ntmps75
  go_wp2_with (fail)
  go_ret
  exact ⟨rfl, rfl⟩
theorem recp_below (w : World) (t : Int) (g : Nat) (hg : w.cell? ⟨g, 0, none⟩ = some (I t)) : PredBelow Tryz.prog 75 #[Ptr g] (fun s : Sg => .agg (#[I s.1, I s.2])) (fun s => ((s.2 : Int) == t)) w := by
  intro W x hW
  have hlt := World.block_lt_of_cell? w _ hg
  refine (recp_any W x.1 x.2 t g ((hW.cell (p := ⟨g, 0, none⟩) hlt).trans hg)).mono ?_
  rintro e w' ⟨rfl, rfl⟩
  exact ⟨rfl, hW.alloc hW.size _⟩
end
section
set_option maxHeartbeats 8000000
set_option maxRecDepth 100000
/-! ### slices.IndexFunc at the segments -/
theorem Kept.cellOf {w w' : World} (k : Kept [] w w') {p : Addr} {v : Value} (h : w.cell? p = some v) : w'.cell? p = some v := (k.cell (World.block_lt_of_cell? w _ h) (by simp)).trans h
theorem ixf_any (w : World) (segs : List Sg) (g c q k : Nat) (t : Int) (hs : segs.length ≤ 1000) (hk : k < segs.length)
    (hc : ∀ (i : Nat) (hi : i < segs.length), w.cell? ⟨g, i * 2, none⟩ = some (I segs[i].1) ∧ w.cell? ⟨g, i * 2 + 1, none⟩ = some (I segs[i].2))
    (ht : ((segs[k].2 : Int) == t) = true) (hn : ∀ (j : Nat) (hj : j < k), ((segs[j].2 : Int) == t) = false) (hq : w.cell? ⟨q, 0, none⟩ = some (I t)) :
    Calls Tryz.prog 74 #[.slice (some ⟨g, 0, none⟩) segs.length c, .func (.func 75) #[] #[Ptr q]] w fun e w' => e = .returned (I k) ∧ Kept [] w w' := by
  have hsI : (segs.length : Int) ≤ 1000 := by omega
  have HC := Lib.hid (And.intro hc (And.intro ht (And.intro hn hq)))
  clear hc ht hn hq
  go_enter Tryz.func74, Tryz.ntmps74
  go_wp2_with (fail)
  go_loopw [5, 8] (fun _ vi wr => ∃ j : Nat, j ≤ k ∧ vi = I j ∧ Kept [] w wr) (fun _ vi _ => segs.length - (intOf vi).toNat)
  case atStart => exact ⟨0, by omega, rfl, Kept.refl _ _⟩
  case round =>
    obtain ⟨j, hj, rfl, kr⟩ := hrel
    obtain ⟨hc, ht, hn, hq⟩ := HC.out
    have hjl : j < segs.length := by omega
    have hjI : (j : Int) < segs.length := by omega
    have hjI0 : (0 : Int) ≤ j := by omega
    obtain ⟨a0, a1⟩ := hc j hjl
    have e0 := kr.cellOf a0
    have e1 := kr.cellOf a1
    have hqr := kr.cellOf hq
    have HP := Lib.hid (fun b num => recp_any wr b num t q hqr)
    have HR := Lib.hid kr
    clear hc ht hn hq a0 a1 hqr kr
    go_wp2_with (fail)
    refine (HP.out _ _).mono ?_
    rintro e w2 ⟨rfl, rfl⟩
    clear e0 e1
    have k2 := HR.out.alloc (Obj.cells #[I segs[j].1, I segs[j].2] 98)
    generalize wr.alloc (Obj.cells #[I segs[j].1, I segs[j].2] 98) = w2 at k2 ⊢
    by_cases hjk : j = k
    · subst hjk
      have ht := HC.out.2.1
      rw [ht]
      clear ht
      go_wp2_with (fail)
      go_ret
      exact ⟨rfl, k2⟩
    · have hn := HC.out.2.2.1 j (by omega)
      rw [hn]
      clear hn
      go_wp2_with (fail)
      go_roundw
      case rel => exact ⟨j + 1, by omega, by go_num, k2⟩
      case measure => simp [intOf]; omega
end
section
set_option maxHeartbeats 8000000
set_option maxRecDepth 100000
/-! ### Records -/
set_option maxHeartbeats 4000000 in
theorem records_any (w : World) (lb pb fb bb cb fs n : Nat) (v : Value) (segs : List Sg) (f : Fl) (h : LgAt w lb pb fb bb cb fs n v segs f false) (hs : segs.length ≤ 1000) (hd : f.dead = false) (k : Nat) (hk : k < segs.length) (hb : segs[k].1 < n)
    (hn : ∀ (j : Nat) (hj : j < k), segs[j].2 ≠ segs[k].2) (rs : List (List UInt8)) (hrs : ∀ r ∈ rs, r.length ≤ 400) (hu : usedF rs ≤ 7) (hseg : blockOf f.bs (fs + segs[k].1) = segB segs[k].2 rs) :
    Calls Tryz.prog 54 #[Ptr lb, I segs[k].2] w fun e w' => ∃ vo, e = .returned (.tuple #[vo, I 0]) ∧ w'.ownsRow w.heap.size 9 1 vo rs.length (rs.map S) ∧ Kept [] w w' := by
  obtain ⟨g, c, hv, hcl⟩ := h.slice (by intro h0; rw [h0] at hk; simp at hk)
  subst hv
  obtain ⟨sn, hsn⟩ : ∃ sn, segs[k].2 = sn := ⟨_, rfl⟩
  have HI := Lib.hid (fun W q (kw : Kept [] w W) (hq : W.cell? ⟨q, 0, none⟩ = some (I sn)) => ixf_any W segs g c q k sn hs hk (fun i hi => ⟨kw.cellOf (hcl i hi).1, kw.cellOf (hcl i hi).2⟩) (by rw [hsn]; simp) (fun j hj => by have := hn j hj; rw [hsn] at this; simp; omega) hq)
  obtain ⟨c0, c1, c2⟩ := h.cells
  rw [hsn]
  have kq : Kept [] w (w.alloc (.cells #[I sn] 3)) := (Kept.refl _ _).alloc _
  have hq := cell_at (heap_new w (.cells #[I sn] 3)) 0
  have d1 := kq.cellOf c1
  obtain ⟨b, hbb⟩ : ∃ b, segs[k].1 = b := ⟨_, rfl⟩
  rw [hbb] at hb hseg
  rw [hsn] at hseg
  have hn256 := h.pt.bound.1
  have HRD := Lib.hid (fun W (kw : Kept [] w W) => pread_any W pb fb bb cb fs n f (h.same kw).pt hd (b * 512) 512 (by omega) (by omega))
  have HSB := Lib.hid hseg
  have HE := Lib.hid (fun W (kw : Kept [] w W) => And.intro (h.same kw).cells (And.intro (kw.cellOf (hcl k hk).1) hbb))
  have HRS := Lib.hid (And.intro hrs hu)
  have hkI : (k : Int) < segs.length := by omega
  have hk0 : ¬ (k : Int) < 0 := by omega
  have hk1 : (0 : Int) ≤ k := by omega
  have hsI : (segs.length : Int) ≤ 1000 := by omega
  have hbI : (b : Int) ≤ 256 := by omega
  have H := Lib.hid h
  have HKQ := Lib.hid (And.intro kq hq)
  clear h hcl hn hseg hrs hu kq hq
  go_enter Tryz.func54, Tryz.ntmps54
  go_wp2_with (fail)
  refine (HI.out _ _ HKQ.out.1 HKQ.out.2).mono ?_
  rintro e w2 ⟨rfl, k2⟩
  have K2 := Lib.hid (HKQ.out.1.trans' k2)
  clear k2
  obtain ⟨⟨f0, f1, f2⟩, f3, f4⟩ := HE.out _ K2.out
  clear c0 c1 c2 d1 hbb hb hn256 hsn f4
  go_upto_region 6 with (fail)
  go_cut [7, 8] from 25 to 41 (fun v7 v8 wx => v7 = S (segB sn rs) ∧ v8 = I 0 ∧ Kept [] w wx)
  case first =>
    obtain ⟨⟨g0, g1, g2⟩, g3, g4⟩ := HE.out w2.drew K2.out.drew
    rw [g4] at g3
    clear g4 f0 f1 f2 f3
    have HR1 : Hid (Calls Tryz.prog 71 #[Ptr pb, I (b * 512 : Nat), I 512] w2.drew fun e w' => e = .returned (.tuple #[S ((f.bs.drop (512 * fs + b * 512)).take 512), I 0]) ∧ w' = w2.drew) := Lib.hid (HRD.out w2.drew K2.out.drew)
    have hbm : (b : Int) * 512 = (b * 512 : Nat) := by omega
    have hw1 : IntKind.i64.wrap ((b : Int) * 512) = (b * 512 : Nat) := by rw [IntKind.wrap_i64]; omega
    obtain ⟨N, hN⟩ : ∃ N : Nat, b * 512 = N := ⟨_, rfl⟩
    rw [hN] at HR1 hbm hw1
    have HNN := Lib.hid hN
    have hNb : (N : Int) ≤ 131072 := by omega
    have hw4 : IntKind.i64.wrap (N : Int) = N := by rw [IntKind.wrap_i64]; omega
    clear hN
    go_region_with (first
      | (go_at_call 71; (with_reducible refine HR1.out.mono ?_); rintro e w3 ⟨rfl, rfl⟩))
    all_goals
      go_wp2
      go_meet
      exact ⟨by rw [← HSB.out]; unfold blockOf; rw [← HNN.out]; congr 3; omega, rfl, K2.out.drew⟩
  case rest =>
  obtain ⟨rfl, rfl, kx⟩ := hcut
  have KX := Lib.hid kx
  obtain ⟨i0, hi, hz0, hz1, hz2⟩ := info_parts str_info
  have HI2 := Lib.hid (And.intro hi (And.intro hz0 (And.intro hz1 hz2)))
  have HR1 : Hid (∀ (a : List (List UInt8)) (r : List UInt8) (b : List (List UInt8)), rs = a ++ r :: b → ∀ W, Calls Tryz.prog 76 #[S (segB sn rs), I (1 + usedF a : Nat)] W fun e w' => e = .returned (.tuple #[S r, I (pagesF r.length)]) ∧ w' = W) := Lib.hid (by
    intro a r b h W
    obtain ⟨q1, q2⟩ := HRS.out
    subst h
    exact record_seg sn a r b q1 q2 W)
  have HR2 : Hid (∀ (q : Nat), 1 + usedF rs ≤ q → q < 8 → ∀ W, Calls Tryz.prog 76 #[S (segB sn rs), I q] W fun e w' => e = .returned (.tuple #[S [], I 0]) ∧ w' = W) := Lib.hid (fun q q1 q2 W => record_end sn rs HRS.out.1 HRS.out.2 q q1 q2 W)
  obtain ⟨SB, hSB⟩ : ∃ SB, segB sn rs = SB := ⟨_, rfl⟩
  rw [hSB] at HR1 HR2 ⊢
  clear hSB kx hi hz0 hz1 hz2 f0 f1 f2 f3 HSB HE HRD HI hk0 hk1 hkI
  go_wp2_with (fail)
  go_loopw [9, 10] (fun v9 v10 wr => ∃ (a b : List (List UInt8)) (q : Nat), rs = a ++ b ∧ 1 + usedF a ≤ q ∧ q ≤ 8 ∧ (b ≠ [] → q = 1 + usedF a) ∧ v10 = I q ∧ wr.ownsRow w.heap.size 9 1 v9 a.length (a.map S) ∧ Kept [] w wr) (fun _ v10 _ => 8 - (intOf v10).toNat)
  case atStart => exact ⟨[], rs, 1, rfl, by simp [usedF], by omega, fun _ => rfl, rfl, ⟨rfl, .inl ⟨rfl, rfl⟩⟩, KX.out⟩
  case round =>
    obtain ⟨a, b, q, hab, hq1, hq2, hqb, rfl, own, kr⟩ := hrel
    have hqI2 : (q : Int) ≤ 8 := by omega
    have hal : a.length ≤ 8 := by
      have : ∀ l : List (List UInt8), l.length ≤ usedF l := fun l => by
        induction l with
        | nil => exact Nat.le_refl _
        | cons x l ih => have := pages_pos x.length; simp only [List.length_cons, usedF]; omega
      have := this a
      omega
    obtain ⟨p, c, rfl⟩ := own_form own
    by_cases hlt : q < 8
    · have hltI : (q : Int) < 8 := by omega
      cases b with
      | nil =>
        rw [List.append_nil] at hab
        subst hab
        have HRC := Lib.hid (HR2.out q hq1 hlt wr)
        have HR := Lib.hid (And.intro own (And.intro kr (And.intro hq1 hq2)))
        clear own kr hq1 hq2 hqb HR1 HR2 hal
        go_wp2_with (fail)
        refine HRC.out.mono ?_
        rintro e w2 ⟨rfl, rfl⟩
        go_wp2_with (fail)
        go_roundw
        case rel => exact ⟨rs, [], q + 1, by simp, by have := HR.out.2.2.1; omega, by omega, fun h => absurd rfl h, by go_num, HR.out.1, HR.out.2.1⟩
        case measure => simp [intOf]; omega
      | cons r b =>
        have hq := hqb (by simp)
        have hu := HRS.out.2
        rw [hab, usedF_append] at hu
        simp only [usedF] at hu
        have hr1 := pages_pos r.length
        have HRC := Lib.hid (HR1.out a r b hab wr)
        obtain ⟨pr, hpr⟩ : ∃ pr, pagesF r.length = pr := ⟨_, rfl⟩
        rw [← hq] at HRC
        rw [hpr] at HRC hu hr1
        have hprI : (1 : Int) ≤ pr := by omega
        have hprI2 : (pr : Int) ≤ 7 := by omega
        have hpr0 : (0 : Int) < pr := by omega
        have hmx : max (1 : Int) pr = pr := by omega
        have HR := Lib.hid (And.intro own (And.intro kr (And.intro hq (And.intro hpr (And.intro hab (And.intro hu hal))))))
        clear own kr hq1 hq2 hqb HR1 HR2 hq hpr hab hu hr1 hal
        obtain ⟨hi, hz0, hz1, hz2⟩ := HI2.out
        go_wp2_with (fail)
        refine HRC.out.mono ?_
        rintro e w2 ⟨rfl, rfl⟩
        go_wp2_with (first
          | (at_builtin
             refine wpList_append_lies _ rfl (.tmp 55) (.tmp 57) _ rfl w.heap.size 9 i0 (.string ⟨#[]⟩) 1 16 Tryz.underlying101 hi hz0 hz1 hz2 rfl (by decide) (.slice p a.length c) a.length (a.map S) rfl (own_kept HR.out.1 ((Kept.refl [] w2).alloc _) (by simp)) ⟨w2.heap.size, 0, none⟩ 1 1 [S r] rfl rfl (World.news_of_block (heap_new w2 _)) (S_one [r]) (by decide) (by have := HR.out.2.2.2.2.2.2; unfold maxLen; omega) (by have := HR.out.2.2.2.2.2.2; omega) (by rw [World.size_alloc]; have := HR.out.2.1.size; omega) _ rfl ?_
             intro g cap wa own1 gr1 hat hlt2
             have HA := Lib.hid (And.intro own1 gr1)
             clear own1 gr1 hat hlt2))
        go_roundw
        case rel =>
          obtain ⟨own1, gr1⟩ := HA.out
          obtain ⟨own, kr, hq, hpr, hab, hu, hal⟩ := HR.out
          refine ⟨a ++ [r], b, q + pr, by rw [hab]; simp, ?_, by omega, fun _ => ?_, by go_num, ?_, ?_⟩
          · rw [usedF_snoc]; omega
          · rw [usedF_snoc]; omega
          · rw [List.map_append, List.length_append]; exact own1
          · refine kr.new (((Kept.refl [] w2).alloc _).mono (by simp) |>.trans' (kept_grown gr1)) ?_
            intro x hx
            exact (own_lt own x (by simpa using hx)).1
        case measure => simp [intOf]; omega
    · have hq8 : q = 8 := by omega
      subst hq8
      have hb : b = [] := by
        cases b with
        | nil => rfl
        | cons r b =>
          exfalso
          have hu := HRS.out.2
          rw [hab, usedF_append] at hu
          simp only [usedF] at hu
          have := hqb (by simp)
          have := pages_pos r.length
          omega
      subst hb
      rw [List.append_nil] at hab
      subst hab
      have HR := Lib.hid (And.intro own kr)
      clear own kr hq1 hq2 hqb HR1 HR2 hal hlt
      go_wp2_with (fail)
      go_ret2
      exact ⟨_, rfl, HR.out.1, HR.out.2⟩
end

end Go.Proofs.YtncdfaocemfgfaaGreat
