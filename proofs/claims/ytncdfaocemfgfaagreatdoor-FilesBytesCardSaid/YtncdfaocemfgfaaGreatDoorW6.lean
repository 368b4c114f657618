/- Walks and lemmas on the program of this seat, used by its statements; each theorem bears its own conditions. -/
import Derived.Test.YtncdfaocemfgfaaGreatDoorW5
import Derived.Handy
import Derived.OwnWalk
import Derived.Deep.AppendLies
import Derived.IntWalk
import Derived.Deep.CutRange
import Derived.Deep.RegionHeld3
import Derived.Deep.RegionLaw
namespace Go.Proofs.YtncdfaocemfgfaaGreatDoor
open Go.RowKit
set_option linter.unusedVariables false
set_option linter.unusedSimpArgs false
set_option linter.unusedSectionVars false
section
open Go.RowKit
set_option linter.unusedVariables false
set_option linter.unusedSimpArgs false
set_option maxHeartbeats 8000000
set_option maxRecDepth 100000
theorem segCells_at (l : List Sg) : ∀ (i : Nat) (h : i < l.length), (segCells l)[i * 2]? = some (I l[i].1) ∧ (segCells l)[i * 2 + 1]? = some (I l[i].2) := by
  induction l with
  | nil => intro i h; simp at h
  | cons s l ih =>
    intro i h
    cases i with
    | zero => exact ⟨rfl, rfl⟩
    | succ i =>
      have := ih i (by simpa using h)
      have e : segCells (s :: l) = I s.1 :: I s.2 :: segCells l := rfl
      rw [e, show (i + 1) * 2 = i * 2 + 1 + 1 by omega]
      exact this
theorem own_cells {w : World} {B : Nat} {t : TypeId} {p : Option Addr} {c : Nat} {segs : List Sg} (h : w.ownsRow B t 2 (.slice p segs.length c) segs.length (segCells segs)) (hne : segs ≠ []) :
    ∃ g, p = some ⟨g, 0, none⟩ ∧ ∀ (i : Nat) (hi : i < segs.length), w.cell? ⟨g, i * 2, none⟩ = some (I segs[i].1) ∧ w.cell? ⟨g, i * 2 + 1, none⟩ = some (I segs[i].2) := by
  rcases h.2 with ⟨e, h0⟩ | ⟨g, cap, cur, e, hb, hg, hnc, _, hsz, htake⟩
  · exact absurd (List.eq_nil_of_length_eq_zero h0) hne
  · injection e with e1 e2 e3
    refine ⟨g, e1, fun i hi => ?_⟩
    obtain ⟨a1, a2⟩ := segCells_at segs i hi
    rw [← htake] at a1 a2
    rw [List.getElem?_take_of_lt (by omega), Array.getElem?_toList] at a1 a2
    exact ⟨by rw [cell_at hg]; exact a1, by rw [cell_at hg]; exact a2⟩
theorem LgAt.slice {w : World} {lb pb fb bb cb fs n : Nat} {v : Value} {segs : List Sg} {f : Fl} {dead : Bool} (h : LgAt w lb pb fb bb cb fs n v segs f dead) (hne : segs ≠ []) :
    ∃ g c, v = .slice (some ⟨g, 0, none⟩) segs.length c ∧ ∀ (i : Nat) (hi : i < segs.length), w.cell? ⟨g, i * 2, none⟩ = some (I segs[i].1) ∧ w.cell? ⟨g, i * 2 + 1, none⟩ = some (I segs[i].2) := by
  obtain ⟨p, c, rfl⟩ := own_form h.own
  obtain ⟨g, hp, hcl⟩ := own_cells h.own hne
  exact ⟨g, c, by rw [hp], hcl⟩
theorem newest_any (w : World) (lb pb fb bb cb fs n : Nat) (v : Value) (init : List Sg) (b num : Nat) (f : Fl) (dead : Bool) (h : LgAt w lb pb fb bb cb fs n v (init ++ [(b, num)]) f dead) (hs : init.length ≤ 1000) :
    Calls Tryz.prog 157 #[Ptr lb] w fun e w' => e = .returned (.agg #[I b, I num]) ∧ Kept [] w w' := by
  obtain ⟨c0, c1, c2⟩ := h.cells
  obtain ⟨g, c, hv, hcl⟩ := h.slice (by simp)
  obtain ⟨e0, e1⟩ := hcl init.length (by simp)
  simp only [List.getElem_append_right (Nat.le_refl _), Nat.sub_self, List.getElem_cons_zero] at e0 e1
  rw [hv, List.length_append, List.length_singleton] at c1
  have hm : (init.length : Int) ≤ 1000 := by omega
  have hlb := h.lt
  have hgl := World.block_lt_of_cell? w _ e0
  obtain ⟨m, hmm⟩ : ∃ m, init.length = m := ⟨_, rfl⟩
  rw [hmm] at c1 e0 e1 hm
  have hkn : Kept [] w (w.alloc (.cells #[I 0, I 0] 214)) := (Kept.refl _ _).alloc _
  clear h hv hcl hs hmm
  go_enter Tryz.func157, Tryz.ntmps157
  go_wp2_with (fail)
  have hne : m * 2 + 1 ≠ 0 := by omega
  go_region
  all_goals
    go_wp2
    go_returns
    exact ⟨rfl, by first | exact ((Kept.refl _ _).alloc _).drew | exact ((Kept.refl _ _).drew).alloc _⟩
theorem free_any (w : World) (lb pb fb bb cb fs n : Nat) (v : Value) (segs : List Sg) (f : Fl) (dead : Bool) (h : LgAt w lb pb fb bb cb fs n v segs f dead) (hs : segs.length ≤ 1000) :
    Calls Tryz.prog 121 #[Ptr lb] w fun e w' => e = .returned (I ((n : Int) - segs.length)) ∧ Kept [] w w' := by
  have hb := h.pt.bound.1
  have HB := Lib.hid (fun k : Nat => lblocks_any (w.drewN k) lb pb fb bb cb fs n v segs f dead (h.same ((Kept.refl _ _).drewN k)))
  obtain ⟨p, c, hv⟩ := own_form h.own
  obtain ⟨c0, c1, c2⟩ := h.cells
  rw [hv] at c1
  have hm : (segs.length : Int) ≤ 1000 := by omega
  have hn : (n : Int) ≤ 256 := by omega
  clear h hv hs hb
  go_enter Tryz.func121, Tryz.ntmps121
  go_wp2_with (fail)
  go_quiet ((go_at_call 148; exact Calls.quiet_of_same (HB.out _)))
  go_wp2_with (fail)
  go_ret
  exact ⟨rfl, (Kept.refl _ _).drewN _⟩
def pageOf (l : List UInt8) (p : Nat) : List UInt8 := (l.drop (64 * p)).take 64
def roomF (l : List UInt8) : Nat → Nat
  | 0 => 0
  | p + 1 => if allB (pageOf l (p + 1)) = true then roomF l p + 1 else 0
theorem page_eq (bs : List UInt8) (fs b p : Nat) (hp : p ≤ 7) : (bs.drop (512 * fs + (b * 512 + p * 64))).take 64 = pageOf (blockOf bs (fs + b)) p := by
  unfold pageOf blockOf
  rw [List.drop_take, List.take_take, List.drop_drop, Nat.min_eq_left (by omega)]
  congr 2
  omega
theorem seg_block (x y : Value) (w : World) : (Instr.field 214 (.agg #[x, y]) 0).run Tryz.prog w = .ok x w := by kernel_rfl
set_option maxHeartbeats 4000000 in
theorem room_any (w : World) (lb pb fb bb cb fs n : Nat) (v : Value) (init : List Sg) (b num : Nat) (f : Fl) (dead : Bool) (h : LgAt w lb pb fb bb cb fs n v (init ++ [(b, num)]) f dead) (hs : init.length ≤ 1000) (hd : f.dead = false) (hb : b < n) :
    Calls Tryz.prog 120 #[Ptr lb] w fun e w' => e = .returned (I (roomF (blockOf f.bs (fs + b)) 7)) ∧ Kept [] w w' := by
  have HNW := Lib.hid (fun W (k : Kept [] w W) => newest_any W lb pb fb bb cb fs n v init b num f dead (h.same k) hs)
  have HE := Lib.hid (fun W (k : Kept [] w W) => (h.same k).cells.1)
  obtain ⟨bk, hbk⟩ : ∃ bk, blockOf f.bs (fs + b) = bk := ⟨_, rfl⟩
  have HCL : Hid (∀ (p : Nat) (W : World), p ≤ 7 → Kept [] w W → Calls Tryz.prog 156 #[Ptr pb, I (b * 512 + p * 64 : Nat), I 64] W fun e w' => e = .returned (.tuple #[.bool (allB (pageOf bk p)), I 0]) ∧ w' = W) := Lib.hid fun p W hp k => by
    have := clean_any W pb fb bb cb fs n f (h.same k).pt hd (b * 512 + p * 64) 64 (by omega) (by omega)
    rw [page_eq _ _ _ _ hp, hbk] at this
    exact this
  rw [hbk]
  have hbn := h.pt.bound.1
  have hbI : (b : Int) ≤ 256 := by omega
  clear h hs hd hb hbk hbn
  have hfd : ∀ w : World, (Instr.field 214 (.agg #[I b, I num]) 0).run Tryz.prog w = .ok (I b) w := fun _ => seg_block _ _ _
  go_enter Tryz.func120, Tryz.ntmps120
  go_wp2_with (fail)
  go_loopw [3, 4] (fun vn vp wr => ∃ p : Nat, p ≤ 7 ∧ vp = I p ∧ vn = I (7 - p : Nat) ∧ roomF bk 7 = (7 - p) + roomF bk p ∧ Kept [] w wr) (fun _ vp _ => (intOf vp).toNat)
  case atStart => exact ⟨7, by omega, rfl, rfl, by omega, Kept.refl _ _⟩
  case round =>
    obtain ⟨p, hp, rfl, rfl, hr, kr⟩ := hrel
    have HR := Lib.hid (And.intro hr kr)
    clear hr kr
    by_cases hp0 : p = 0
    · subst hp0
      go_wp2_with (fail)
      go_ret
      exact ⟨by rw [HR.out.1]; rfl, HR.out.2⟩
    · have hp1 : (0 : Int) < p := by omega
      have hpI : (p : Int) ≤ 7 := by omega
      have hsum : (b : Int) * 512 + (p : Int) * 64 = (b * 512 + p * 64 : Nat) := by omega
      have hw1 : IntKind.i64.wrap ((b : Int) * 512) = (b : Int) * 512 := by rw [IntKind.wrap_i64]; omega
      have hw2 : IntKind.i64.wrap ((p : Int) * 64) = (p : Int) * 64 := by rw [IntKind.wrap_i64]; omega
      have hw3 : IntKind.i64.wrap ((b : Int) * 512 + (p : Int) * 64) = (b * 512 + p * 64 : Nat) := by rw [IntKind.wrap_i64]; omega
      have HCP := Lib.hid (HCL.out p)
      obtain ⟨N, hN⟩ : ∃ N : Nat, b * 512 + p * 64 = N := ⟨_, rfl⟩
      rw [hN] at hsum hw3 HCP
      have hNb : (N : Int) ≤ 262144 := by omega
      have hw4 : IntKind.i64.wrap (N : Int) = N := by rw [IntKind.wrap_i64]; omega
      clear hN
      have e0 := HE.out wr.drew HR.out.2.drew
      go_upto_region 5 with (fail)
      go_cut [5, 6] from 7 to 31 (fun v5 v6 wx => v5 = .bool (allB (pageOf bk p)) ∧ v6 = I 0 ∧ Kept [] w wx)
      case first =>
        go_region_with (first
          | (go_at_call 157; (with_reducible refine (HNW.out _ HR.out.2.drew).mono ?_); rintro e w2 ⟨rfl, k2⟩; have e1 := HE.out _ (HR.out.2.drew.trans' k2))
          | (go_at_call 156; (with_reducible refine (HCP.out _ hp (HR.out.2.drew.trans' k2)).mono ?_); rintro e w3 ⟨rfl, rfl⟩))
        all_goals
          go_wp2
          go_meet
          exact ⟨rfl, rfl, HR.out.2.drew.trans' k2⟩
      case rest =>
        obtain ⟨rfl, rfl, kx⟩ := hcut
        have KX := Lib.hid kx
        clear kx e0 hsum hw1 hw2 hw3 hw4
        cases hcl : allB (pageOf bk p) with
        | true =>
          have HY : Hid (roomF bk p = roomF bk (p - 1) + 1) := Lib.hid (by
            obtain ⟨q, rfl⟩ : ∃ q, p = q + 1 := ⟨p - 1, by omega⟩
            show (if allB (pageOf bk (q + 1)) = true then roomF bk q + 1 else 0) = _
            rw [if_pos hcl]; rfl)
          clear hcl
          go_wp2_with (fail)
          go_roundw
          case rel => exact ⟨p - 1, by omega, by go_num, by go_num, by have := HR.out.1; have := HY.out; omega, KX.out⟩
          case measure => simp [intOf]; omega
        | false =>
          have HY : Hid (roomF bk p = 0) := Lib.hid (by
            obtain ⟨q, rfl⟩ : ∃ q, p = q + 1 := ⟨p - 1, by omega⟩
            show (if allB (pageOf bk (q + 1)) = true then roomF bk q + 1 else 0) = _
            rw [if_neg (by rw [hcl]; decide)])
          clear hcl
          go_wp2_with (fail)
          go_ret
          exact ⟨by rw [HR.out.1, HY.out]; rfl, KX.out⟩
end
section
open Go.RowKit
set_option linter.unusedVariables false
set_option linter.unusedSimpArgs false
set_option maxHeartbeats 8000000
set_option maxRecDepth 100000
def LfPost (pb fb bb cb fs n : Nat) (w : World) (f : Fl) (e : Ending) (w' : World) : Prop :=
  ∃ lb v, w.heap.size ≤ lb ∧ e = .returned (.tuple #[Ptr lb, I 0]) ∧ LgAt w' lb pb fb bb cb fs n v [(0, 1)] (madeF f fs 0 1) false ∧ (∀ q, v.ownBlock = some q → w.heap.size ≤ q) ∧ Kept [fb, bb, cb] w w'
set_option maxHeartbeats 4000000 in
theorem lformat_any (w : World) (pb fb bb cb fs n : Nat) (f : Fl) (h : PtAt w pb fb bb cb fs n f) (hd : f.dead = false) (ha : f.armed = 0) (h4 : 4 ≤ n) (hc : ∀ k, k < n → blockOf f.bs (fs + k) = fullB) :
    Calls Tryz.prog 110 #[Ptr pb] w (LfPost pb fb bb cb fs n w f) := by
  obtain ⟨lb, hlb⟩ : ∃ lb, w.heap.size = lb := ⟨_, rfl⟩
  obtain ⟨W, hW⟩ : ∃ W, w.alloc (.cells #[Ptr pb, .slice none 0 0, .bool false] 206) = W := ⟨_, rfl⟩
  have hk0 : Kept [] w W := by rw [← hW]; exact (Kept.refl _ _).alloc _
  have hl0 : LgAt W lb pb fb bb cb fs n (.slice none 0 0) [] f false := by
    have hb : W.heap[lb]? = some (.cells #[Ptr pb, .slice none 0 0, .bool false] 206 (0, 0)) := by rw [← hW, ← hlb]; exact heap_new w _
    have := h.fl.lt
    have := h.fl.lt2
    have := h.fl.lt3
    have := lt_of_block h.blk
    exact ⟨hb, ⟨rfl, .inl ⟨rfl, rfl⟩⟩, h.same hk0, by omega, by omega, by omega, by omega⟩
  have H0 := Lib.hid (And.intro hl0 hk0)
  have HBL := Lib.hid (fun W (l : LgAt W lb pb fb bb cb fs n (.slice none 0 0) [] f false) => lblocks_any W lb pb fb bb cb fs n _ [] f false l)
  have HCL := Lib.hid (fun W (l : LgAt W lb pb fb bb cb fs n (.slice none 0 0) [] f false) k (hk : k < n) => lclean_any W lb pb fb bb cb fs n _ [] f l hd k hk (by rw [hc k hk]; exact allB_full))
  have HMK := Lib.hid (fun W (l : LgAt W lb pb fb bb cb fs n (.slice none 0 0) [] f false) => makes_any W lb pb fb bb cb fs n _ [] f l hd ha 0 1 (by omega) (hc 0 (by omega)) (by decide) (by simp))
  have hnI : (4 : Int) ≤ n := by omega
  have hn256 : (n : Int) ≤ 256 := by have := h.bound.1; omega
  have hnf : decide ((n : Int) < 4) = false := decide_eq_false (by omega)
  have hlbI : lb = w.heap.size := hlb.symm
  have HLB := Lib.hid hlbI
  clear hlbI
  clear h hd ha h4 hc hl0 hk0
  go_enter Tryz.func110, Tryz.ntmps110
  go_upto_region 2 with (fail)
  clear hW hlb
  go_wp2_with (fail)
  refine (HBL.out _ H0.out.1).mono ?_
  rintro e w1 ⟨rfl, rfl⟩
  go_wp2_with (fail)
  refine (HBL.out _ H0.out.1).mono ?_
  rintro e w2 ⟨rfl, rfl⟩
  go_wp2_with (fail)
  go_loopw [16] (fun i wr => ∃ k : Nat, k ≤ n ∧ i = I k ∧ LgAt wr lb pb fb bb cb fs n (.slice none 0 0) [] f false ∧ Kept [] w wr) (fun i _ => n - (intOf i).toNat)
  case atStart => exact ⟨0, by omega, rfl, H0.out.1, H0.out.2⟩
  case round =>
    obtain ⟨k, hk, rfl, hl, kr⟩ := hrel
    have HR := Lib.hid (And.intro hl kr)
    clear hl kr
    by_cases hlt : k < n
    · have hltI : (k : Int) < n := by omega
      go_wp2_with (fail)
      refine (HCL.out _ HR.out.1 k hlt).mono ?_
      rintro e w3 ⟨rfl, h3, k3⟩
      have H3 := Lib.hid (And.intro h3 (HR.out.2.new k3 (by intro x hx; simp at hx; have := HLB.out; omega)))
      clear h3 k3
      go_wp2_with (fail)
      go_roundw
      case rel => exact ⟨k + 1, by omega, by go_num, H3.out.1, H3.out.2⟩
      case measure => simp [intOf]; omega
    · have hke : ¬ (k : Int) < n := by omega
      have hdf : decide ((k : Int) < n) = false := decide_eq_false hke
      go_wp2_with (fail)
      refine (HMK.out _ HR.out.1).mono ?_
      rintro e w3 ⟨rfl, v', hfr, h3, k3⟩
      have hsz := HR.out.2.size
      have hfin : LfPost pb fb bb cb fs n w f (.returned (.tuple #[Ptr lb, I 0])) w3 := ⟨lb, v', by have := HLB.out; omega, rfl, h3, fun q hq => by
        rcases hfr q hq with h | h
        · cases h
        · omega, by
        have k4 : Kept [lb, fb, bb, cb] wr w3 := k3.mono (by intro x hx; have e : (Value.slice none 0 0).ownBlock = none := rfl; simpa [LgT, e] using hx)
        exact (HR.out.2.mono (by simp) : Kept [fb, bb, cb] w wr).trans k4 (by have := HLB.out; intro x hx; simp at hx ⊢; omega)⟩
      have HFIN := Lib.hid hfin
      clear hfin hfr h3 k3
      go_wp2_with (fail)
      go_ret2
      exact HFIN.out
end
end Go.Proofs.YtncdfaocemfgfaaGreatDoor
