/- Walks and lemmas on the program of this seat, used by its statements; each theorem bears its own conditions. -/
import Derived.Test.YtncdfaocemfgfaaGreatXOG
import Derived.Handy
import Derived.OwnWalk
import Derived.Deep.AppendLies
import Derived.IntWalk
import Derived.Deep.CutRange
import Derived.Deep.RegionHeld3
import Derived.Deep.RegionLaw
namespace Go.Proofs.YtncdfaocemfgfaaGreat
open Go.RowKit
set_option linter.unusedVariables false
set_option linter.unusedSimpArgs false
set_option maxHeartbeats 8000000
set_option maxRecDepth 100000
/-! ### Append -/
/-- The flash behind pages laid one behind the other. -/
def layF (f : Fl) (a : Nat) : List (List UInt8) → Fl
  | [] => f
  | s :: l => layF { f.stepped with bs := progL f.bs a s } (a + 64) l
def appF (f : Fl) (a : Nat) (r : List UInt8) : Fl := { (layF f a (laidL r)).stepped with bs := progL (layF f a (laidL r)).bs (a + 3) [0] }
theorem layF_snoc (l : List (List UInt8)) : ∀ (f : Fl) (a : Nat) (s : List UInt8), layF f a (l ++ [s]) = { (layF f a l).stepped with bs := progL (layF f a l).bs (a + 64 * l.length) s } := by
  induction l with
  | nil => intro f a s; simp [layF]
  | cons x l ih =>
    intro f a s
    rw [List.cons_append]
    show layF _ (a + 64) (l ++ [s]) = _
    rw [ih, show a + 64 + 64 * l.length = a + 64 * (x :: l).length by simp; omega]
    rfl
theorem layF_live (l : List (List UInt8)) : ∀ (f : Fl) (a : Nat), f.dead = false → f.armed = 0 → (layF f a l).dead = false ∧ (layF f a l).armed = 0 := by
  induction l with
  | nil => intro f a h1 h2; exact ⟨h1, h2⟩
  | cons x l ih => intro f a h1 h2; exact ih _ _ h1 h2
theorem chunks_all (k : Nat) : ∀ (r : List UInt8), ∀ x ∈ chunksF k r, x.length ≤ 63 := by
  induction k with
  | zero => intro r x hx; simp [chunksF] at hx
  | succ k ih =>
    intro r x hx
    unfold chunksF at hx
    split at hx
    · simp at hx
    · rcases List.mem_cons.1 hx with rfl | hx
      · rw [List.length_take]; omega
      · exact ih _ x hx
theorem laidL_all (r : List UInt8) : ∀ x ∈ laidL r, x ≠ [] ∧ x.length ≤ 64 := by
  intro x hx
  rcases List.mem_cons.1 hx with rfl | hx
  · unfold firstL
    refine ⟨by simp, ?_⟩
    simp only [List.length_append, List.length_take, putN_len, List.length_cons, List.length_nil]
    omega
  · obtain ⟨y, hy, rfl⟩ := List.mem_map.1 hx
    have := chunks_all _ _ y hy
    exact ⟨by simp, by simp; omega⟩
theorem chunks_len (k : Nat) : ∀ (r : List UInt8), r.length ≤ 63 * k → (chunksF k r).length = (r.length + 62) / 63 := by
  induction k with
  | zero => intro r hr; have : r.length = 0 := by omega
            rw [this]; rfl
  | succ k ih =>
    intro r hr
    unfold chunksF
    split
    · next h => subst h; rfl
    · next h =>
      have := List.length_pos_iff.2 h
      rw [List.length_cons, ih _ (by rw [List.length_drop]; omega), List.length_drop]
      omega
theorem laidL_len (r : List UInt8) (hr : r.length ≤ 400) : (laidL r).length = pagesF r.length := by
  unfold laidL
  rw [List.length_cons, List.length_map, chunks_len 7 _ (by rw [List.length_drop]; omega), List.length_drop]
  unfold pagesF
  split <;> omega
theorem row_cells1 {w : World} {B : Nat} {t : TypeId} {v : Value} {n : Nat} {xs : List Value} (h : w.ownsRow B t 1 v n xs) (hne : n ≠ 0) :
    ∃ g c, v = .slice (some ⟨g, 0, none⟩) n c ∧ B ≤ g ∧ ∀ i, i < n → w.cell? ⟨g, i, none⟩ = xs[i]? := by
  rcases h.2 with ⟨e, h0⟩ | ⟨g, cap, cur, e, hb, hg, hnc, _, hsz, htake⟩
  · exact absurd h0 hne
  · refine ⟨g, cap, e, hb, fun i hi => ?_⟩
    rw [cell_at hg, ← htake, List.getElem?_take_of_lt (by omega), Array.getElem?_toList]
set_option maxHeartbeats 4000000 in
theorem append_any (w : World) (lb pb fb bb cb fs n : Nat) (v : Value) (init : List Sg) (b num : Nat) (f : Fl) (h : LgAt w lb pb fb bb cb fs n v (init ++ [(b, num)]) f false) (hs : init.length ≤ 900) (hd : f.dead = false) (ha : f.armed = 0) (hb : b < n)
    (r : List UInt8) (hr : r.length ≤ 400) (spare : Nat) (hsp : spare ≤ 1000)
    (init' : List Sg) (b' num' : Nat) (f' : Fl) (rm : Nat)
    (hcase : (pagesF r.length ≤ roomF (blockOf f.bs (fs + b)) 7 ∧ init' = init ∧ b' = b ∧ num' = num ∧ f' = f) ∨
      (roomF (blockOf f.bs (fs + b)) 7 < pagesF r.length ∧ spare + (init.length + 1) < n ∧ blockOf f.bs (fs + (b + 1) % n) = fullB ∧ num + 1 < 256 ^ 6 ∧ init' = init ++ [(b, num)] ∧ b' = (b + 1) % n ∧ num' = num + 1 ∧ f' = madeF f fs ((b + 1) % n) (num + 1)))
    (hrm : roomF (blockOf f'.bs (fs + b')) 7 = rm) (hrm7 : rm ≤ 7) (hfit : pagesF r.length ≤ rm) :
    Calls Tryz.prog 59 #[Ptr lb, S r, I spare] w (LgPost (I 0) lb pb fb bb cb fs n v w (init' ++ [(b', num')]) (appF f' (512 * fs + (b' * 512 + (8 - rm) * 64)) r) false) := by
  have HP := Lib.hid (fun W => pages_any r.length hr W)
  have HL := Lib.hid (fun W => laid_any r hr W)
  have HPD := Lib.hid (pdead_any w pb fb bb cb fs n f h.pt)
  have HRM := Lib.hid (room_any w lb pb fb bb cb fs n v init b num f false h (by omega) hd hb)
  obtain ⟨rm0, hrm0⟩ : ∃ k, roomF (blockOf f.bs (fs + b)) 7 = k := ⟨_, rfl⟩
  obtain ⟨pg, hpg⟩ : ∃ k, pagesF r.length = k := ⟨_, rfl⟩
  have hpg1 : 1 ≤ pg ∧ pg ≤ 7 := by rw [← hpg]; unfold pagesF; split <;> omega
  have hll := laidL_len r hr
  rw [hpg] at HP hcase hfit hll
  rw [hrm0] at HRM hcase
  have hrI : (r.length : Int) ≤ 400 := by omega
  have hpgI : (1 : Int) ≤ pg := by omega
  have hpgI2 : (pg : Int) ≤ 7 := by omega
  have hspI : (0 : Int) ≤ spare := by omega
  have hspb : decide ((spare : Int) < 0) = false := decide_eq_false (by omega)
  have hpg0 : ((pg : Int) == 0) = false := by simp; omega
  obtain ⟨c0, c1, c2⟩ := h.cells
  rw [hd] at HPD
  have H := Lib.hid h
  have HC := Lib.hid hcase
  have hb256 := h.pt.bound.1
  have hall := laidL_all r
  obtain ⟨L, hL⟩ : ∃ L, laidL r = L := ⟨_, rfl⟩
  have HAF : Hid (∀ F a, appF F a r = { (layF F a L).stepped with bs := progL (layF F a L).bs (a + 3) [0] }) := Lib.hid fun F a => by rw [← hL]; rfl
  rw [hL] at HL hll hall
  have hlive : f'.dead = false ∧ f'.armed = 0 ∧ b' < n ∧ init'.length ≤ 901 := by
    rcases hcase with ⟨_, e1, e2, _, e4⟩ | ⟨_, _, _, _, e1, e2, _, e4⟩
    · rw [e1, e2, e4]; exact ⟨hd, ha, hb, by omega⟩
    · rw [e1, e2, e4]; exact ⟨hd, ha, Nat.mod_lt _ (by omega), by simp; omega⟩
  have HV := Lib.hid hlive
  obtain ⟨A, hA⟩ : ∃ A : Nat, b' * 512 + (8 - rm) * 64 = A := ⟨_, rfl⟩
  rw [hA]
  have HA0 := Lib.hid hA
  clear hlive hL hA
  clear h hcase hrm0 hpg
  go_enter Tryz.func59, Tryz.ntmps59
  go_wp2_with (fail)
  refine (HP.out _).mono ?_
  rintro e w1 ⟨rfl, rfl⟩
  go_wp2_with (fail)
  refine HPD.out.mono ?_
  rintro e w1 ⟨rfl, rfl⟩
  go_wp2_with (fail)
  refine HRM.out.mono ?_
  rintro e w2 ⟨rfl, k2⟩
  have K2 := Lib.hid k2
  clear k2
  go_upto_if 38 with (fail)
  go_cut [] from 8 to 58 (fun wx => ∃ v', Fresh w1 v v' ∧ LgAt wx lb pb fb bb cb fs n v' (init' ++ [(b', num')]) f' false ∧ Kept (LgT lb fb bb cb v) w1 wx)
  case first =>
    rcases HC.out with ⟨hm, rfl, rfl, rfl, rfl⟩ | ⟨hm, hfr, hbk, hnum, hi', hb', hnum', hf'⟩
    · have hmI : decide ((rm0 : Int) < pg) = false := decide_eq_false (by omega)
      go_wp2_with (fail)
      go_meet
      exact ⟨v, Fresh.refl _ _, H.out.same K2.out, LgT.sub0 K2.out⟩
    · have hmI : decide ((rm0 : Int) < pg) = true := decide_eq_true (by omega)
      have hmI2 : (rm0 : Int) < pg := by omega
      have HFR := Lib.hid (free_any w2 lb pb fb bb cb fs n v _ f false (H.out.same K2.out) (by simp; omega))
      have hle : ¬ ((n : Int) - ((init.length : Int) + 1) ≤ spare) := by omega
      have hleb : decide ((n : Int) - ((init.length : Int) + 1) ≤ spare) = false := decide_eq_false hle
      clear hm hfr hi' hb' hnum' hf'
      go_wp2_with (fail)
      refine HFR.out.mono ?_
      rintro e w3 ⟨rfl, k3⟩
      have K3 := Lib.hid (K2.out.trans' k3)
      clear k3
      go_wp2_with (fail)
      refine (newest_any _ lb pb fb bb cb fs n v init b num f false (H.out.same K3.out) (by omega)).mono ?_
      rintro e w4 ⟨rfl, k4⟩
      have K4 := Lib.hid (K3.out.trans' k4)
      clear k4
      have hnI : (n : Int) ≤ 256 := by have := H.out.pt.bound.1; omega
      have hbI : (b : Int) < n := by omega
      have hb1 : (b : Int) + 1 ≤ 256 := by omega
      have hnz : ((n : Int) == 0) = false := by simp; omega
      have hn1 : (1 : Int) ≤ n := by omega
      have hnumI : (num : Int) + 1 ≤ 281474976710656 := by
        have e6 : (256 : Nat) ^ 6 = 281474976710656 := by decide
        omega
      go_upto_region 14 with (fail)
      obtain ⟨D, hD⟩ : ∃ D, w4.heap.size = D := ⟨_, rfl⟩
      obtain ⟨W0, hW0⟩ : ∃ W0, w4.alloc (Obj.cells #[Value.int IntKind.i64 b, Value.int IntKind.i64 num] 98) = W0 := ⟨_, rfl⟩
      have hnw : W0.drew.heap[D]? = some (.cells #[Value.int IntKind.i64 b, Value.int IntKind.i64 num] 98 (0, 0)) := by
        rw [← hW0, ← hD]; exact heap_new w4 _
      have kw : Kept [] w1 W0.drew := by rw [← hW0]; exact (K4.out.alloc _).drew
      rw [hW0, hD]
      have e0 := cell_at hnw 0
      have e1 := cell_at hnw 1
      simp only [List.getElem?_toArray, List.getElem?_cons_zero, List.getElem?_cons_succ] at e0 e1
      have HB := Lib.hid (lblocks_any W0.drew lb pb fb bb cb fs n v _ f false (H.out.same kw))
      have hk : (b + 1) % n < n := Nat.mod_lt _ (by omega)
      have HM := Lib.hid (makes_any W0.drew lb pb fb bb cb fs n v _ f (H.out.same kw) hd ha ((b + 1) % n) (num + 1) hk hbk hnum (by simp; omega))
      have KW := Lib.hid kw
      have hn0 : ¬ n = 0 := by omega
      have hn0I : ¬ (n : Int) = 0 := by omega
      have hwb : IntKind.i64.wrap ((b : Int) + 1) = ((b + 1 : Nat) : Int) := by rw [IntKind.wrap_i64]; omega
      have hwn : IntKind.i64.wrap ((num : Int) + 1) = ((num + 1 : Nat) : Int) := by rw [IntKind.wrap_i64]; omega
      have hrem : ((b + 1 : Nat) : Int).tmod n = (((b + 1) % n : Nat) : Int) := rfl
      have hrem2 : ((b + 1 : Nat) : Int) % n = (((b + 1) % n : Nat) : Int) := by omega
      have hrem3 : ((b : Int) + 1).tmod n = (((b + 1) % n : Nat) : Int) := rfl
      have hrem4 : ((b : Int) + 1) % n = (((b + 1) % n : Nat) : Int) := (Int.natCast_emod (b + 1) n).symm
      obtain ⟨kk, hkk⟩ : ∃ kk, (b + 1) % n = kk := ⟨_, rfl⟩
      obtain ⟨nn, hnn⟩ : ∃ nn, num + 1 = nn := ⟨_, rfl⟩
      have hkI : (kk : Int) ≤ 256 := by have := hk; rw [hkk] at this; omega
      rw [hkk] at HM hrem hrem2 hrem3 hrem4
      rw [hnn] at HM hwn
      have HKK := Lib.hid (And.intro hkk hnn)
      clear hkk hnn
      clear hnw kw hk hbk hnum hW0 hD hd ha hrm hll hrm7 hfit hpg1 hle hleb
      have FIN : ∀ v6 w6, Fresh W0.drew v v6 → LgAt w6 lb pb fb bb cb fs n v6 (init ++ [(b, num)] ++ [(kk, nn)]) (madeF f fs kk nn) false → Kept (LgT lb fb bb cb v) W0.drew w6 → ∃ v', Fresh w1 v v' ∧ LgAt w6 lb pb fb bb cb fs n v' (init' ++ [(b', num')]) f' false ∧ Kept (LgT lb fb bb cb v) w1 w6 := by
        intro v6 w6 hfr6 h6 k6
        rcases HC.out with ⟨hm, _⟩ | ⟨hm, _, _, _, hi', hb', hnum', hf'⟩
        · omega
        · have hsz := KW.out.size
          obtain ⟨q1, q2⟩ := HKK.out
          subst q1 q2
          rw [hi', hb', hnum', hf']
          exact ⟨v6, (fun q hq => (hfr6 q hq).imp id (fun h7 => Nat.le_trans hsz h7)), h6, (LgT.sub0 KW.out).trans' k6⟩
      have HFIN := Lib.hid FIN
      clear FIN
      go_region_with (first
        | (go_at_call 52; (with_reducible refine HB.out.mono ?_); rintro e w5 ⟨rfl, rfl⟩)
        | (go_at_call 70; (with_reducible refine HM.out.mono ?_); rintro e w6 ⟨rfl, v6, hfr6, h6, k6⟩))
      all_goals
        go_wp2
        go_meet
        exact HFIN.out v6 w6 hfr6 h6 k6
  case rest =>
  obtain ⟨v1, hfr, hl, kx⟩ := hcut
  obtain ⟨hd1, ha1, hb1, hi1⟩ := HV.out
  have HRM1 := Lib.hid (fun W (k : Kept [] wc W) => room_any W lb pb fb bb cb fs n v1 init' b' num' f' false (hl.same k) (by omega) hd1 hb1)
  have HNW1 := Lib.hid (newest_any wc lb pb fb bb cb fs n v1 init' b' num' f' false hl (by omega))
  have HX := Lib.hid (And.intro hfr (And.intro hl kx))
  have HR1 := Lib.hid (And.intro hrm hfit)
  have hrmI : (rm : Int) ≤ 7 := by omega
  have hbI : (b' : Int) ≤ 256 := by omega
  have hA := HA0.out
  have hA64 : A % 64 = 0 := by omega
  have hAn : A + 64 * pg ≤ 512 * n := by omega
  have HAI : Hid ((b' : Int) * 512 + ((8 : Int) - rm) * 64 = A) := Lib.hid (by omega)
  have hA2 : (A : Int) ≤ 131072 := by omega
  have hfd : ∀ w : World, (Instr.field 98 (.agg #[I b', I num']) 0).run Tryz.prog w = .ok (I b') w := fun _ => seg_block _ _ _
  rw [hrm] at HRM1
  clear hfr hl kx hd1 ha1 hb1 hi1 hA hd ha hb hs hrm hfit hr hsp hrm7
  go_upto_region 17 with (fail)
  go_cut [10] from 59 to 67 (fun v10 wx => v10 = I A ∧ Kept [] wc wx)
  case first =>
    go_wp2_with (fail)
    refine HNW1.out.mono ?_
    rintro e w2 ⟨rfl, k2⟩
    go_wp2_with (fail)
    refine (HRM1.out _ k2).mono ?_
    rintro e w3 ⟨rfl, k3⟩
    go_wp2_with (fail)
    go_meet
    exact ⟨by rw [← HAI.out], k2.trans' k3⟩
  case rest =>
  obtain ⟨rfl, kc⟩ := hcut
  have KC := Lib.hid kc
  clear kc hrmI hbI hfd
  have HN1 := Lib.hid (And.intro hA64 hAn)
  clear hA64 hAn
  have hpgI3 := hpgI2
  go_wp2_with (fail)
  refine (HL.out _).mono ?_
  rintro e w4 ⟨vL, rfl, ownL, k4⟩
  obtain ⟨g, c, rfl, hg, hcells⟩ := row_cells1 ownL (by rw [hll]; omega)
  rw [hll] at hcells ownL
  have hltw : ∀ q ∈ [lb, fb, bb, cb], q < wc.heap.size := by
    have := (HX.out.2.1.same KC.out).lt
    have := HX.out.2.1.n2
    have := HX.out.2.1.n3
    have := HX.out.2.1.n4
    intro q hq
    simp at hq
    omega
  have HW := Lib.hid (And.intro hcells (And.intro hg (And.intro k4 hltw)))
  have hll2 := Lib.hid hll
  have hall2 := Lib.hid hall
  clear hcells hg ownL k4 hltw hall
  rw [hll]
  clear hll
  go_wp2_with (fail)
  go_loopw [71] (fun vi wr => ∃ i : Nat, i ≤ pg ∧ vi = I i ∧ LgAt wr lb pb fb bb cb fs n v1 (init' ++ [(b', num')]) (layF f' (512 * fs + A) (L.take i)) false ∧ Kept [lb, fb, bb, cb] w4 wr) (fun vi _ => pg - (intOf vi).toNat)
  case atStart => exact ⟨0, by omega, rfl, HX.out.2.1.same (KC.out.trans' HW.out.2.2.1), Kept.refl _ _⟩
  case round =>
    obtain ⟨i, hi, rfl, hlg, kr⟩ := hrel
    have HR := Lib.hid (And.intro hlg kr)
    clear hlg kr
    have hps : Hid ((layF f' (512 * fs + A) (L.take i)).dead = false ∧ (layF f' (512 * fs + A) (L.take i)).armed = 0) := Lib.hid (layF_live _ _ _ HV.out.1 HV.out.2.1)
    obtain ⟨F, hF⟩ : ∃ F, layF f' (512 * fs + A) (L.take i) = F := ⟨_, rfl⟩
    rw [hF] at HR hps
    by_cases hlt : i < pg
    · obtain ⟨s, hs⟩ : ∃ s, L[i]? = some s := ⟨L[i]'(by have := hll2.out; omega), List.getElem?_eq_getElem _⟩
      have hcell := HW.out.1 i hlt
      rw [List.getElem?_map, hs] at hcell
      have hcl : wr.cell? ⟨g, i, none⟩ = some (S s) := by
        have hgl : wc.heap.size ≤ g := HW.out.2.1
        exact (HR.out.2.cell (World.block_lt_of_cell? w4 _ hcell) (fun hm => by have := HW.out.2.2.2 g hm; omega)).trans hcell
      have hsn := hall2.out s (List.mem_of_getElem? hs)
      have HPW := Lib.hid (pwrite_any wr pb fb bb cb fs n F HR.out.1.pt hps.out.1 hps.out.2 (A + i * 64) s hsn.1 (by have := HN1.out.2; have := hsn.2; omega) (by have := HN1.out.1; have := hsn.2; omega))
      have HNX : Hid (L.take (i + 1) = L.take i ++ [s]) := Lib.hid (by rw [List.take_add_one, hs]; rfl)
      have HS := Lib.hid hs
      have HF := Lib.hid hF
      clear hs hcell hsn hF
      obtain ⟨c0, c1, c2⟩ := HR.out.1.cells
      have hiI : (i : Int) < pg := by omega
      have hiI0 : (0 : Int) ≤ i := by omega
      have hAs : (A : Int) + (i : Int) * 64 = (A + i * 64 : Nat) := by omega
      obtain ⟨N, hN⟩ : ∃ N : Nat, A + i * 64 = N := ⟨_, rfl⟩
      rw [hN] at hAs HPW
      have HNN := Lib.hid hN
      clear hN
      go_wp2_with (fail)
      refine HPW.out.mono ?_
      rintro e w5 ⟨rfl, h5, k5⟩
      have H5 := Lib.hid (And.intro (HR.out.1.turned k5 h5) k5)
      clear h5 k5 c0 c1 c2
      go_wp2_with (fail)
      refine (ltold_any _ lb pb fb bb cb fs n v1 _ _ false H5.out.1 0).mono ?_
      rintro e w6 ⟨rfl, h6, k6⟩
      have H6 := Lib.hid (And.intro h6 k6)
      clear h6 k6
      go_wp2_with (fail)
      go_roundw
      case rel =>
        refine ⟨i + 1, by omega, by go_num, ?_, ?_⟩
        · have hlen : (L.take i).length = i := by rw [List.length_take, hll2.out]; omega
          have h7 := H6.out.1
          rw [HNX.out, layF_snoc, HF.out, hlen, show 512 * fs + A + 64 * i = 512 * fs + N by have := HNN.out; omega]
          exact h7
        · exact HR.out.2.trans' ((H5.out.2.mono (by simp)).trans' (H6.out.2.mono (by simp)))
      case measure => simp [intOf]; omega
    · have hie : i = pg := by omega
      subst hie
      have htk : L.take i = L := List.take_of_length_le (by have := hll2.out; omega)
      rw [htk] at hF
      have HF := Lib.hid hF
      have hb1 : ([0] : List UInt8) ≠ [] := by simp
      have HPW := Lib.hid (fun W (k : Kept [] wr W) => pwrite_any W pb fb bb cb fs n F (HR.out.1.same k).pt hps.out.1 hps.out.2 (A + 3) [0] hb1 (by have := HN1.out.2; simp; omega) (by have := HN1.out.1; simp; omega))
      clear hF htk hlt hb1
      obtain ⟨c0, c1, c2⟩ := HR.out.1.cells
      have hA3 : (A : Int) + 4 - 1 = (A + 3 : Nat) := by omega
      have hA3b : (A : Int) + 3 = (A + 3 : Nat) := by omega
      obtain ⟨B, hB⟩ : ∃ B : Nat, A + 3 = B := ⟨_, rfl⟩
      rw [hB] at hA3 hA3b HPW
      have HB0 := Lib.hid hB
      have hB2 : (B : Int) ≤ 131080 := by omega
      clear hB
      go_wp2_with (fail)
      refine (HPW.out _ (Kept.refl _ _)).mono ?_
      rintro e w5 ⟨rfl, h5, k5⟩
      have H5 := Lib.hid (And.intro (HR.out.1.turned k5 h5) k5)
      clear h5 k5 c0 c1 c2
      go_wp2_with (fail)
      refine (ltold_any _ lb pb fb bb cb fs n v1 _ _ false H5.out.1 0).mono ?_
      rintro e w6 ⟨rfl, h6, k6⟩
      have H6 := Lib.hid (And.intro h6 k6)
      clear h6 k6
      go_wp2_with (fail)
      go_ret
      refine ⟨rfl, v1, HX.out.1, ?_, ?_⟩
      · rw [HAF.out, HF.out, show 512 * fs + A + 3 = 512 * fs + B by have := HB0.out; omega]
        exact H6.out.1
      · refine HX.out.2.2.trans' (LgT.sub0 (KC.out.trans' HW.out.2.2.1) |>.trans' ?_)
        exact ((HR.out.2.trans' ((H5.out.2.mono (by simp)).trans' (H6.out.2.mono (by simp)))).mono (by intro x hx; simp [LgT] at hx ⊢; omega))

end Go.Proofs.YtncdfaocemfgfaaGreat
