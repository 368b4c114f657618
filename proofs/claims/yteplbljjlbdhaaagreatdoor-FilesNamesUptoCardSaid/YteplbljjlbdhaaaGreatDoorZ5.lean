/- Walks and lemmas on the program of this seat, used by its statements; each theorem bears its own conditions. -/
import Derived.Test.YteplbljjlbdhaaaGreatDoorZ4
namespace Go.Proofs.YteplbljjlbdhaaaGreatDoor
open Go.RowKit
set_option linter.unusedVariables false
set_option linter.unusedSimpArgs false
set_option linter.unusedSectionVars false
set_option maxHeartbeats 16000000
set_option maxRecDepth 100000
theorem segCells_at (l : List Sg) : ∀ (i : Nat) (h : i < l.length), (segCells l)[i * 2]? = some (I l[i].1) ∧ (segCells l)[i * 2 + 1]? = some (I l[i].2) := by
 induction l with
 | nil => intro i h; simp at h
 | cons s l ih =>
  intro i h
  cases i with
  | zero => exact ⟨rfl, rfl⟩
  | succ i =>
   have := ih i (by simpa using h)
   have e : segCells (s :: l) = I s.1 :: I s.2 :: segCells l := rfl
   rw [e, show (i + 1) * 2 = i * 2 + 1 + 1 by omega]
   exact this
theorem own_cells {w : World} {B : Nat} {t : TypeId} {p : Option Addr} {c : Nat} {segs : List Sg} (h : w.ownsRow B t 2 (.slice p segs.length c) segs.length (segCells segs)) (hne : segs ≠ []) :
  ∃ g, p = some ⟨g, 0, none⟩ ∧ ∀ (i : Nat) (hi : i < segs.length), w.cell? ⟨g, i * 2, none⟩ = some (I segs[i].1) ∧ w.cell? ⟨g, i * 2 + 1, none⟩ = some (I segs[i].2) := by
 rcases h.2 with ⟨e, h0⟩ | ⟨g, cap, cur, e, hb, hg, hnc, _, hsz, htake⟩
 ·exact absurd (List.eq_nil_of_length_eq_zero h0) hne
 ·injection e with e1 e2 e3
  refine ⟨g, e1, fun i hi => ?_⟩
  obtain ⟨a1, a2⟩ := segCells_at segs i hi
  rw [← htake] at a1 a2
  rw [List.getElem?_take_of_lt (by omega), Array.getElem?_toList] at a1 a2
  exact ⟨by rw [cell_at hg]; exact a1, by rw [cell_at hg]; exact a2⟩
theorem LgAt.slice {w : World} {lb pb fb bb cb fs n : Nat} {v : Value} {segs : List Sg} {f : Fl} {dead : Bool} (h : LgAt w lb pb fb bb cb fs n v segs f dead) (hne : segs ≠ []) :
  ∃ g c, v = .slice (some ⟨g, 0, none⟩) segs.length c ∧ ∀ (i : Nat) (hi : i < segs.length), w.cell? ⟨g, i * 2, none⟩ = some (I segs[i].1) ∧ w.cell? ⟨g, i * 2 + 1, none⟩ = some (I segs[i].2) := by
 obtain ⟨p, c, rfl⟩ := own_form h.own
 obtain ⟨g, hp, hcl⟩ := own_cells h.own hne
 exact ⟨g, c, by rw [hp], hcl⟩
theorem newest_any (w : World) (lb pb fb bb cb fs n : Nat) (v : Value) (init : List Sg) (b num : Nat) (f : Fl) (dead : Bool) (h : LgAt w lb pb fb bb cb fs n v (init ++ [(b, num)]) f dead) (hs : init.length ≤ 1000) :
  Calls Tryz.prog 143 #[Ptr lb] w fun e w' => e = .returned (.agg #[I b, I num]) ∧ Kept [] w w' := by
 obtain ⟨c0, c1, c2⟩ := h.cells
 obtain ⟨g, c, hv, hcl⟩ := h.slice (by simp)
 obtain ⟨e0, e1⟩ := hcl init.length (by simp)
 simp only [List.getElem_append_right (Nat.le_refl _), Nat.sub_self, List.getElem_cons_zero] at e0 e1
 rw [hv, List.length_append, List.length_singleton] at c1
 have hm : (init.length : Int) ≤ 1000 := by omega
 have hlb := h.lt
 have hgl := World.block_lt_of_cell? w _ e0
 obtain ⟨m, hmm⟩ : ∃ m, init.length = m := ⟨_, rfl⟩
 rw [hmm] at c1 e0 e1 hm
 have hkn : Kept [] w (w.alloc (.cells #[I 0, I 0] 207)) := (Kept.refl _ _).alloc _
 clear h hv hcl hs hmm
 go_enter Tryz.func143, Tryz.ntmps143
 go_wp2_with (fail)
 have hne : m * 2 + 1 ≠ 0 := by omega
 go_region
 all_goals
  go_wp2
  go_returns
  exact ⟨rfl, by first | exact ((Kept.refl _ _).alloc _).drew | exact ((Kept.refl _ _).drew).alloc _⟩
theorem free_any (w : World) (lb pb fb bb cb fs n : Nat) (v : Value) (segs : List Sg) (f : Fl) (dead : Bool) (h : LgAt w lb pb fb bb cb fs n v segs f dead) (hs : segs.length ≤ 1000) :
  Calls Tryz.prog 117 #[Ptr lb] w fun e w' => e = .returned (I ((n : Int) - segs.length)) ∧ Kept [] w w' := by
 have hb := h.pt.bound.1
 have HB := Lib.hid (fun k : Nat => lblocks_any (w.drewN k) lb pb fb bb cb fs n v segs f dead (h.same ((Kept.refl _ _).drewN k)))
 obtain ⟨p, c, hv⟩ := own_form h.own
 obtain ⟨c0, c1, c2⟩ := h.cells
 rw [hv] at c1
 have hm : (segs.length : Int) ≤ 1000 := by omega
 have hn : (n : Int) ≤ 256 := by omega
 clear h hv hs hb
 go_enter Tryz.func117, Tryz.ntmps117
 go_wp2_with (fail)
 go_quiet ((go_at_call 102; exact Calls.quiet_of_same (HB.out _)))
 go_wp2_with (fail)
 go_ret
 exact ⟨rfl, (Kept.refl _ _).drewN _⟩
def pageOf (l : List UInt8) (p : Nat) : List UInt8 := (l.drop (64 * p)).take 64
def roomF (l : List UInt8) : Nat → Nat
 | 0 => 0
 | p + 1 => if allB (pageOf l (p + 1)) = true then roomF l p + 1 else 0
theorem page_eq (bs : List UInt8) (fs b p : Nat) (hp : p ≤ 7) : (bs.drop (512 * fs + (b * 512 + p * 64))).take 64 = pageOf (blockOf bs (fs + b)) p := by
 unfold pageOf blockOf
 rw [List.drop_take, List.take_take, List.drop_drop, Nat.min_eq_left (by omega)]
 congr 2
 omega
theorem seg_block (x y : Value) (w : World) : (Instr.field 207 (.agg #[x, y]) 0).run Tryz.prog w = .ok x w := by kernel_rfl
theorem room_any (w : World) (lb pb fb bb cb fs n : Nat) (v : Value) (init : List Sg) (b num : Nat) (f : Fl) (dead : Bool) (h : LgAt w lb pb fb bb cb fs n v (init ++ [(b, num)]) f dead) (hs : init.length ≤ 1000) (hd : f.dead = false) (hb : b < n) :
  Calls Tryz.prog 116 #[Ptr lb] w fun e w' => e = .returned (I (roomF (blockOf f.bs (fs + b)) 7)) ∧ Kept [] w w' := by
 have HNW := Lib.hid (fun W (k : Kept [] w W) => newest_any W lb pb fb bb cb fs n v init b num f dead (h.same k) hs)
 have HE := Lib.hid (fun W (k : Kept [] w W) => (h.same k).cells.1)
 obtain ⟨bk, hbk⟩ : ∃ bk, blockOf f.bs (fs + b) = bk := ⟨_, rfl⟩
 have HCL : Hid (∀ (p : Nat) (W : World), p ≤ 7 → Kept [] w W → Calls Tryz.prog 130 #[Ptr pb, I (b * 512 + p * 64 : Nat), I 64] W fun e w' => e = .returned (.tuple #[.bool (allB (pageOf bk p)), I 0]) ∧ w' = W) := Lib.hid fun p W hp k => by
  have := clean_any W pb fb bb cb fs n f (h.same k).pt hd (b * 512 + p * 64) 64 (by omega) (by omega)
  rw [page_eq _ _ _ _ hp, hbk] at this
  exact this
 rw [hbk]
 have hbn := h.pt.bound.1
 have hbI : (b : Int) ≤ 256 := by omega
 clear h hs hd hb hbk hbn
 have hfd : ∀ w : World, (Instr.field 207 (.agg #[I b, I num]) 0).run Tryz.prog w = .ok (I b) w := fun _ => seg_block _ _ _
 go_enter Tryz.func116, Tryz.ntmps116
 go_wp2_with (fail)
 go_loopw [3, 4] (fun vn vp wr => ∃ p : Nat, p ≤ 7 ∧ vp = I p ∧ vn = I (7 - p : Nat) ∧ roomF bk 7 = (7 - p) + roomF bk p ∧ Kept [] w wr) (fun _ vp _ => (intOf vp).toNat)
 case atStart => exact ⟨7, by omega, rfl, rfl, by omega, Kept.refl _ _⟩
 case round =>
  obtain ⟨p, hp, rfl, rfl, hr, kr⟩ := hrel
  have HR := Lib.hid (And.intro hr kr)
  clear hr kr
  by_cases hp0 : p = 0
  ·subst hp0
   go_wp2_with (fail)
   go_ret
   exact ⟨by rw [HR.out.1]; rfl, HR.out.2⟩
  ·have hp1 : (0 : Int) < p := by omega
   have hpI : (p : Int) ≤ 7 := by omega
   have hsum : (b : Int) * 512 + (p : Int) * 64 = (b * 512 + p * 64 : Nat) := by omega
   have hw1 : IntKind.i64.wrap ((b : Int) * 512) = (b : Int) * 512 := by rw [IntKind.wrap_i64]; omega
   have hw2 : IntKind.i64.wrap ((p : Int) * 64) = (p : Int) * 64 := by rw [IntKind.wrap_i64]; omega
   have hw3 : IntKind.i64.wrap ((b : Int) * 512 + (p : Int) * 64) = (b * 512 + p * 64 : Nat) := by rw [IntKind.wrap_i64]; omega
   have HCP := Lib.hid (HCL.out p)
   obtain ⟨N, hN⟩ : ∃ N : Nat, b * 512 + p * 64 = N := ⟨_, rfl⟩
   rw [hN] at hsum hw3 HCP
   have hNb : (N : Int) ≤ 262144 := by omega
   have hw4 : IntKind.i64.wrap (N : Int) = N := by rw [IntKind.wrap_i64]; omega
   clear hN
   have e0 := HE.out wr.drew HR.out.2.drew
   go_upto_region 5 with (fail)
   go_cut [5, 6] from 7 to 31 (fun v5 v6 wx => v5 = .bool (allB (pageOf bk p)) ∧ v6 = I 0 ∧ Kept [] w wx)
   case first =>
    go_region_with (first
     | (go_at_call 143; (with_reducible refine (HNW.out _ HR.out.2.drew).mono ?_); rintro e w2 ⟨rfl, k2⟩; have e1 := HE.out _ (HR.out.2.drew.trans' k2))
     | (go_at_call 130; (with_reducible refine (HCP.out _ hp (HR.out.2.drew.trans' k2)).mono ?_); rintro e w3 ⟨rfl, rfl⟩))
    all_goals
     go_wp2
     go_meet
     exact ⟨rfl, rfl, HR.out.2.drew.trans' k2⟩
   case rest =>
    obtain ⟨rfl, rfl, kx⟩ := hcut
    have KX := Lib.hid kx
    clear kx e0 hsum hw1 hw2 hw3 hw4
    cases hcl : allB (pageOf bk p) with
    | true =>
     have HY : Hid (roomF bk p = roomF bk (p - 1) + 1) := Lib.hid (by
      obtain ⟨q, rfl⟩ : ∃ q, p = q + 1 := ⟨p - 1, by omega⟩
      show (if allB (pageOf bk (q + 1)) = true then roomF bk q + 1 else 0) = _
      rw [if_pos hcl]; rfl)
     clear hcl
     go_wp2_with (fail)
     go_roundw
     case rel => exact ⟨p - 1, by omega, by go_num, by go_num, by have := HR.out.1; have := HY.out; omega, KX.out⟩
     case measure => simp [intOf]; omega
    | false =>
     have HY : Hid (roomF bk p = 0) := Lib.hid (by
      obtain ⟨q, rfl⟩ : ∃ q, p = q + 1 := ⟨p - 1, by omega⟩
      show (if allB (pageOf bk (q + 1)) = true then roomF bk q + 1 else 0) = _
      rw [if_neg (by rw [hcl]; decide)])
     clear hcl
     go_wp2_with (fail)
     go_ret
     exact ⟨by rw [HR.out.1, HY.out]; rfl, KX.out⟩
def LfPost (pb fb bb cb fs n : Nat) (w : World) (f : Fl) (e : Ending) (w' : World) : Prop :=
 ∃ lb v, w.heap.size ≤ lb ∧ e = .returned (.tuple #[Ptr lb, I 0]) ∧ LgAt w' lb pb fb bb cb fs n v [(0, 1)] (madeF f fs 0 1) false ∧ (∀ q, v.ownBlock = some q → w.heap.size ≤ q) ∧ Kept [fb, bb, cb] w w'
theorem lformat_any (w : World) (pb fb bb cb fs n : Nat) (f : Fl) (h : PtAt w pb fb bb cb fs n f) (hd : f.dead = false) (ha : f.armed = 0) (h4 : 4 ≤ n) (hc : ∀ k, k < n → blockOf f.bs (fs + k) = fullB) :
  Calls Tryz.prog 75 #[Ptr pb] w (LfPost pb fb bb cb fs n w f) := by
 obtain ⟨lb, hlb⟩ : ∃ lb, w.heap.size = lb := ⟨_, rfl⟩
 obtain ⟨W, hW⟩ : ∃ W, w.alloc (.cells #[Ptr pb, .slice none 0 0, .bool false] 170) = W := ⟨_, rfl⟩
 have hk0 : Kept [] w W := by rw [← hW]; exact (Kept.refl _ _).alloc _
 have hl0 : LgAt W lb pb fb bb cb fs n (.slice none 0 0) [] f false := by
  have hb : W.heap[lb]? = some (.cells #[Ptr pb, .slice none 0 0, .bool false] 170 (0, 0)) := by rw [← hW, ← hlb]; exact heap_new w _
  have := h.fl.lt
  have := h.fl.lt2
  have := h.fl.lt3
  have := lt_of_block h.blk
  exact ⟨hb, ⟨rfl, .inl ⟨rfl, rfl⟩⟩, h.same hk0, by omega, by omega, by omega, by omega⟩
 have H0 := Lib.hid (And.intro hl0 hk0)
 have HBL := Lib.hid (fun W (l : LgAt W lb pb fb bb cb fs n (.slice none 0 0) [] f false) => lblocks_any W lb pb fb bb cb fs n _ [] f false l)
 have HCL := Lib.hid (fun W (l : LgAt W lb pb fb bb cb fs n (.slice none 0 0) [] f false) k (hk : k < n) => lclean_any W lb pb fb bb cb fs n _ [] f l hd k hk (by rw [hc k hk]; exact allB_full))
 have HMK := Lib.hid (fun W (l : LgAt W lb pb fb bb cb fs n (.slice none 0 0) [] f false) => makes_any W lb pb fb bb cb fs n _ [] f l hd ha 0 1 (by omega) (hc 0 (by omega)) (by decide) (by simp))
 have hnI : (4 : Int) ≤ n := by omega
 have hn256 : (n : Int) ≤ 256 := by have := h.bound.1; omega
 have hnf : decide ((n : Int) < 4) = false := decide_eq_false (by omega)
 have hlbI : lb = w.heap.size := hlb.symm
 have HLB := Lib.hid hlbI
 clear hlbI
 clear h hd ha h4 hc hl0 hk0
 go_enter Tryz.func75, Tryz.ntmps75
 go_upto_region 2 with (fail)
 clear hW hlb
 go_wp2_with (fail)
 refine (HBL.out _ H0.out.1).mono ?_
 rintro e w1 ⟨rfl, rfl⟩
 go_wp2_with (fail)
 refine (HBL.out _ H0.out.1).mono ?_
 rintro e w2 ⟨rfl, rfl⟩
 go_wp2_with (fail)
 go_loopw [16] (fun i wr => ∃ k : Nat, k ≤ n ∧ i = I k ∧ LgAt wr lb pb fb bb cb fs n (.slice none 0 0) [] f false ∧ Kept [] w wr) (fun i _ => n - (intOf i).toNat)
 case atStart => exact ⟨0, by omega, rfl, H0.out.1, H0.out.2⟩
 case round =>
  obtain ⟨k, hk, rfl, hl, kr⟩ := hrel
  have HR := Lib.hid (And.intro hl kr)
  clear hl kr
  by_cases hlt : k < n
  ·have hltI : (k : Int) < n := by omega
   go_wp2_with (fail)
   refine (HCL.out _ HR.out.1 k hlt).mono ?_
   rintro e w3 ⟨rfl, h3, k3⟩
   have H3 := Lib.hid (And.intro h3 (HR.out.2.new k3 (by intro x hx; simp at hx; have := HLB.out; omega)))
   clear h3 k3
   go_wp2_with (fail)
   go_roundw
   case rel => exact ⟨k + 1, by omega, by go_num, H3.out.1, H3.out.2⟩
   case measure => simp [intOf]; omega
  ·have hke : ¬ (k : Int) < n := by omega
   have hdf : decide ((k : Int) < n) = false := decide_eq_false hke
   go_wp2_with (fail)
   refine (HMK.out _ HR.out.1).mono ?_
   rintro e w3 ⟨rfl, v', hfr, h3, k3⟩
   have hsz := HR.out.2.size
   have hfin : LfPost pb fb bb cb fs n w f (.returned (.tuple #[Ptr lb, I 0])) w3 := ⟨lb, v', by have := HLB.out; omega, rfl, h3, fun q hq => by
    rcases hfr q hq with h | h
    ·cases h
    ·omega, by
    have k4 : Kept [lb, fb, bb, cb] wr w3 := k3.mono (by intro x hx; have e : (Value.slice none 0 0).ownBlock = none := rfl; simpa [LgT, e] using hx)
    exact (HR.out.2.mono (by simp) : Kept [fb, bb, cb] w wr).trans k4 (by have := HLB.out; intro x hx; simp at hx ⊢; omega)⟩
   have HFIN := Lib.hid hfin
   clear hfin hfr h3 k3
   go_wp2_with (fail)
   go_ret2
   exact HFIN.out
def pagesF (n : Nat) : Nat := if n ≤ 60 then 1 else 1 + (n + 2) / 63
theorem pages_any (n : Nat) (hn : n ≤ 400) (w : World) : Calls Tryz.prog 114 #[I n] w fun e w' => e = .returned (I (pagesF n)) ∧ w' = w := by
 have hnI : (n : Int) ≤ 400 := by omega
 by_cases h : n ≤ 60
 ·have hI : (n : Int) ≤ 60 := by omega
  have HP : Hid (pagesF n = 1) := Lib.hid (by unfold pagesF; rw [if_pos h])
  clear h
  go_enter Tryz.func114, Tryz.ntmps114
  go_wp2_with (fail)
  go_ret
  exact ⟨by rw [HP.out]; rfl, rfl⟩
 ·have hI : decide ((n : Int) ≤ 60) = false := decide_eq_false (by omega)
  have hI2 : (60 : Int) < n := by omega
  have HP : Hid (pagesF n = 1 + (n + 2) / 63) := Lib.hid (by unfold pagesF; rw [if_neg h])
  have hv : (1 : Int) + ((n : Int) - 60 + 63 - 1) / 63 = (1 + (n + 2) / 63 : Nat) := by omega
  have HV := Lib.hid hv
  clear h hv
  go_enter Tryz.func114, Tryz.ntmps114
  go_wp2_with (fail)
  go_ret
  exact ⟨by rw [HP.out, ← HV.out]; rfl, rfl⟩
def chunksF : Nat → List UInt8 → List (List UInt8)
 | 0, _ => []
 | k + 1, r => if r = [] then [] else r.take 63 :: chunksF k (r.drop 63)
def firstL (r : List UInt8) : List UInt8 := [1] ++ putN 2 r.length ++ [255] ++ r.take 60
def laidL (r : List UInt8) : List (List UInt8) := firstL r :: (chunksF 7 (r.drop 60)).map (2 :: ·)
theorem str_info : (Tryz.prog.info? 9).map (fun i => (i.zero, i.size, i.bytes)) = some (some (.string ⟨#[]⟩), 1, 16) := by kernel_rfl
theorem S_one (l : List (List UInt8)) : ∀ u ∈ l.map S, u.oneCell' = true := by
 intro u hu
 obtain ⟨x, _, rfl⟩ := List.mem_map.1 hu
 rfl
theorem one_conv2 (w : World) (c : UInt8) : (convert 64 9 (.slice (some ⟨w.heap.size, 0, none⟩) 1 1)).run Tryz.prog (w.alloc (.cells #[B c] 5)).drew = .ok (S [c]) (w.alloc (.cells #[B c] 5)).drew := by
 have h : Row (w.alloc (.cells #[B c] 5)).drew w.heap.size [c] := heap_new w _
 exact conv_row h 1
theorem news2 (w : World) (a b : Obj) : ((w.alloc a).alloc b).drew.heap[w.heap.size + 1]? = some b := by
 have := heap_new (w.alloc a) b
 rw [World.size_alloc] at this
 exact this
theorem laid_any (r : List UInt8) (hr : r.length ≤ 400) (w : World) : Calls Tryz.prog 183 #[S r] w fun e w' => ∃ v, e = .returned v ∧ w'.ownsRow w.heap.size 9 1 v (laidL r).length ((laidL r).map S) ∧ Kept [] w w' := by
  have e256 : (256 : Nat) ^ 2 = 65536 := by decide
  have h65 : r.length < 256 ^ 2 := by omega
  clear e256
  have HP := Lib.hid (fun W => put_any W r.length 2 (by omega) (by omega) h65)
  clear h65
  have hrI : (r.length : Int) ≤ 400 := by omega
  have hpl := putN_len 2 r.length
  obtain ⟨pn, hpn⟩ : ∃ pn, putN 2 r.length = pn := ⟨_, rfl⟩
  have HF : Hid (firstL r = [1] ++ pn ++ [255] ++ r.take 60) := Lib.hid (by unfold firstL; rw [hpn])
  rw [hpn] at HP hpl
  obtain ⟨m, hm, hm2⟩ : ∃ m : Nat, min (r.length : Int) 60 = (m : Int) ∧ m ≤ r.length := ⟨min r.length 60, by omega, by omega⟩
  have hm60 : r.take m = r.take 60 := by
    by_cases h : r.length ≤ 60
    · rw [List.take_of_length_le (by omega), List.take_of_length_le h]
    · rw [show m = 60 by omega]
  have hd60 : r.drop m = r.drop 60 := by
    by_cases h : r.length ≤ 60
    · rw [List.drop_of_length_le (by omega), List.drop_of_length_le h]
    · rw [show m = 60 by omega]
  have H60 := Lib.hid (And.intro hm60 hd60)
  have hmI : (m : Int) ≤ r.length := by omega
  obtain ⟨i0, hi, hz0, hz1, hz2⟩ := info_parts str_info
  have HI := Lib.hid (And.intro hi (And.intro hz0 (And.intro hz1 hz2)))
  clear hpn hm2 hm60 hd60 hi hz0 hz1 hz2
  go_enter Tryz.func183, Tryz.ntmps183
  go_wp2_with (fail)
  refine (HP.out _).mono ?_
  rintro e w1 ⟨rfl, k1⟩
  have K1 := Lib.hid k1
  clear k1
  go_upto_region 3 with (fail)
  have hcv : (convert 64 9 (.slice (some ⟨w1.heap.size, 0, none⟩) 1 1)).run Tryz.prog (w1.alloc (.cells #[.int .u8 1] 5)).drew = .ok (S [1]) (w1.alloc (.cells #[.int .u8 1] 5)).drew := one_conv2 w1 1
  go_cut [6] from 16 to 25 (fun v6 wx => wx.ownsRow w.heap.size 9 1 v6 1 [S (firstL r)] ∧ Kept [] w wx)
  case first =>
    go_region
    all_goals
      go_wp2
      go_meet
      have hfl : S (firstL r) = Value.string ⟨(1 :: (pn ++ 255 :: r.take m)).toArray⟩ := by rw [HF.out, ← H60.out.1]; simp
      rw [hfl]
      have hsz := K1.out.size
      have hg : ((w1.alloc (Obj.cells #[Value.int .u8 1] 5)).alloc (Obj.cells #[Value.string ⟨(1 :: (pn ++ 255 :: r.take m)).toArray⟩] 9)).drew.heap[w1.heap.size + 1]? = some (.cells #[Value.string ⟨(1 :: (pn ++ 255 :: r.take m)).toArray⟩] 9 (0, 0)) := by
        have := heap_new (w1.alloc (Obj.cells #[Value.int .u8 1] 5)) (Obj.cells #[Value.string ⟨(1 :: (pn ++ 255 :: r.take m)).toArray⟩] 9)
        rw [World.size_alloc] at this
        exact this
      exact ⟨⟨rfl, .inr ⟨w1.heap.size + 1, 1, _, rfl, by omega, hg, by omega, by decide, rfl, rfl⟩⟩, ((K1.out.alloc _).alloc _).drew⟩
  case rest =>
  obtain ⟨own, kx⟩ := hcut
  have HX := Lib.hid (And.intro own kx)
  have HL0 : Hid (laidL r = [firstL r] ++ (chunksF 7 (r.drop m)).map (2 :: ·)) := Lib.hid (by unfold laidL; rw [H60.out.2]; rfl)
  clear own kx hcv
  obtain ⟨rest0, hr0⟩ : ∃ x, r.drop m = x := ⟨_, rfl⟩
  have hr0l : rest0.length ≤ 400 := by rw [← hr0, List.length_drop]; omega
  have hr0I : (rest0.length : Int) ≤ 400 := by omega
  have hr07 : rest0.length ≤ 63 * 7 := by omega
  rw [hr0] at HL0
  go_upto_region 5 with (fail)
  go_loopw [0, 6] (fun v0 v6 wr => ∃ (j : Nat) (done : List (List UInt8)) (rest : List UInt8), j ≤ 7 ∧ v0 = S rest ∧ rest.length ≤ 63 * j ∧ wr.ownsRow w.heap.size 9 1 v6 done.length (done.map S) ∧ done.length + j = 8 ∧ laidL r = done ++ (chunksF j rest).map (2 :: ·) ∧ Kept [] w wr) (fun v0 _ _ => lenV v0)
  case atStart => exact ⟨7, [firstL r], rest0, by omega, by first | rfl | rw [hr0], hr07, HX.out.1, rfl, HL0.out, HX.out.2⟩
  case round =>
    obtain ⟨j, done, rest, hj, rfl, hrl, own, hdj, hlaid, kr⟩ := hrel
    by_cases hre : rest = []
    · subst hre
      have hch : chunksF j [] = [] := by cases j <;> rfl
      rw [hch, List.map_nil, List.append_nil] at hlaid
      have HR := Lib.hid (And.intro own (And.intro hlaid kr))
      clear own hlaid kr
      go_wp2_with (fail)
      go_ret
      exact ⟨_, rfl, by rw [HR.out.2.1]; exact HR.out.1, HR.out.2.2⟩
    · have hb1 : (rest != []) = true := by simpa using hre
      have hb2 : (!rest.isEmpty) = true := by simpa using hre
      obtain ⟨j', rfl⟩ : ∃ j', j = j' + 1 := ⟨j - 1, by have := List.length_pos_iff.2 hre; omega⟩
      obtain ⟨q, hq, hq2⟩ : ∃ q : Nat, min (rest.length : Int) 63 = (q : Int) ∧ q ≤ rest.length := ⟨min rest.length 63, by omega, by omega⟩
      have hqt : rest.take q = rest.take 63 := by
        by_cases h : rest.length ≤ 63
        · rw [List.take_of_length_le (by omega), List.take_of_length_le h]
        · rw [show q = 63 by omega]
      have hqd : rest.drop q = rest.drop 63 := by
        by_cases h : rest.length ≤ 63
        · rw [List.drop_of_length_le (by omega), List.drop_of_length_le h]
        · rw [show q = 63 by omega]
      have hqp : 1 ≤ q := by have := List.length_pos_iff.2 hre; omega
      have hch : chunksF (j' + 1) rest = rest.take q :: chunksF j' (rest.drop q) := by
        show (if rest = [] then [] else rest.take 63 :: chunksF j' (rest.drop 63)) = _
        rw [if_neg hre, hqt, hqd]
      rw [hch, List.map_cons] at hlaid
      have hqI : (q : Int) ≤ rest.length := by omega
      have hrlI : (rest.length : Int) ≤ 441 := by omega
      have hmn : ¬ 9223372036854775807 < 1 + min q rest.length := by omega
      have hmn2 : (9223372036854775807 < 1 + min q rest.length) = False := eq_false hmn
      obtain ⟨p, c, rfl⟩ := own_form own
      have HR := Lib.hid (And.intro own (And.intro hlaid kr))
      have HJ := Lib.hid (And.intro hj (And.intro hdj (And.intro hrl (And.intro hqp (And.intro hq2 hqd)))))
      clear own hlaid kr hre hqt hqd hch hj hdj hrl hqp hq2
      go_upto_region 8 with (fail)
      have hcv : (convert 64 9 (.slice (some ⟨wr.heap.size, 0, none⟩) 1 1)).run Tryz.prog (wr.alloc (.cells #[.int .u8 2] 5)).drew = .ok (S [2]) (wr.alloc (.cells #[.int .u8 2] 5)).drew := one_conv2 wr 2
      obtain ⟨hi, hz0, hz1, hz2⟩ := HI.out
      go_region_law (first
        | (refine step_append_lies _ rfl (.tmp 37) (.tmp 44) 53 rfl w.heap.size 9 i0 (.string ⟨#[]⟩) 1 16 Tryz.underlying53 hi hz0 hz1 hz2 rfl (by decide) (.slice p done.length c) done.length (done.map S) (by simp [Act.eval, Act.put]) (by exact own_kept HR.out.1 (((Kept.refl [] wr).alloc _).alloc _).drew (by simp)) ⟨wr.heap.size + 1, 0, none⟩ 1 1 [S (2 :: rest.take q)] (by simp [Act.eval, Act.put]) rfl (by exact World.news_of_block (news2 wr _ _)) (S_one [2 :: rest.take q]) (by decide) (by have := HJ.out.2.1; unfold maxLen; omega) (by have := HJ.out.2.1; omega) (by have := HR.out.2.2.size; exact Nat.le_trans this (((Kept.refl [] wr).alloc _).alloc _).drew.size) _ rfl ?_
           intro g cap wa own1 gr1 hat hlt
           have HA := Lib.hid (And.intro own1 gr1)
           clear own1 gr1 hat hlt))
      all_goals
        go_wp2
        go_roundw
      case rel =>
        obtain ⟨own1, gr1⟩ := HA.out
        obtain ⟨own, hlaid, kr⟩ := HR.out
        obtain ⟨hj, hdj, hrl, hqp, hq2, hqd⟩ := HJ.out
        refine ⟨j', done ++ [2 :: rest.take q], rest.drop q, by omega, rfl, by rw [hqd, List.length_drop]; omega, ?_, by rw [List.length_append]; simp; omega, by rw [hlaid]; simp, ?_⟩
        · rw [List.map_append, List.length_append]
          exact own1
        · refine kr.new ((((Kept.refl [] wr).alloc _).alloc _).drew.mono (by simp) |>.trans' (kept_grown gr1)) ?_
          intro x hx
          exact (own_lt own x (by simpa using hx)).1
      case measure =>
        obtain ⟨hj, hdj, hrl, hqp, hq2, hqd⟩ := HJ.out
        show (rest.drop q).length < rest.length
        rw [List.length_drop]
        omega
def layF (f : Fl) (a : Nat) : List (List UInt8) → Fl
 | [] => f
 | s :: l => layF { f.stepped with bs := progL f.bs a s } (a + 64) l
def appF (f : Fl) (a : Nat) (r : List UInt8) : Fl := { (layF f a (laidL r)).stepped with bs := progL (layF f a (laidL r)).bs (a + 3) [0] }
theorem chunks_all (k : Nat) : ∀ (r : List UInt8), ∀ x ∈ chunksF k r, x.length ≤ 63 := by
 induction k with
 | zero => intro r x hx; simp [chunksF] at hx
 | succ k ih =>
  intro r x hx
  unfold chunksF at hx
  split at hx
  ·simp at hx
  ·rcases List.mem_cons.1 hx with rfl | hx
   ·rw [List.length_take]; omega
   ·exact ih _ x hx
theorem laidL_all (r : List UInt8) : ∀ x ∈ laidL r, x ≠ [] ∧ x.length ≤ 64 := by
 intro x hx
 rcases List.mem_cons.1 hx with rfl | hx
 ·unfold firstL
  refine ⟨by simp, ?_⟩
  simp only [List.length_append, List.length_take, putN_len, List.length_cons, List.length_nil]
  omega
 ·obtain ⟨y, hy, rfl⟩ := List.mem_map.1 hx
  have := chunks_all _ _ y hy
  exact ⟨by simp, by simp; omega⟩
theorem chunks_len (k : Nat) : ∀ (r : List UInt8), r.length ≤ 63 * k → (chunksF k r).length = (r.length + 62) / 63 := by
  induction k with
  | zero => intro r hr; have : r.length = 0 := by omega
            rw [this]; rfl
  | succ k ih =>
    intro r hr
    unfold chunksF
    split
    · next h => subst h; rfl
    · next h =>
      have := List.length_pos_iff.2 h
      rw [List.length_cons, ih _ (by rw [List.length_drop]; omega), List.length_drop]
      omega
theorem laidL_len (r : List UInt8) (hr : r.length ≤ 400) : (laidL r).length = pagesF r.length := by
 unfold laidL
 rw [List.length_cons, List.length_map, chunks_len 7 _ (by rw [List.length_drop]; omega), List.length_drop]
 unfold pagesF
 split <;> omega
theorem row_cells1 {w : World} {B : Nat} {t : TypeId} {v : Value} {n : Nat} {xs : List Value} (h : w.ownsRow B t 1 v n xs) (hne : n ≠ 0) :
  ∃ g c, v = .slice (some ⟨g, 0, none⟩) n c ∧ B ≤ g ∧ ∀ i, i < n → w.cell? ⟨g, i, none⟩ = xs[i]? := by
 rcases h.2 with ⟨e, h0⟩ | ⟨g, cap, cur, e, hb, hg, hnc, _, hsz, htake⟩
 ·exact absurd h0 hne
 ·refine ⟨g, cap, e, hb, fun i hi => ?_⟩
  rw [cell_at hg, ← htake, List.getElem?_take_of_lt (by omega), Array.getElem?_toList]
end Go.Proofs.YteplbljjlbdhaaaGreatDoor
