/- Walks and lemmas on the program of this seat, used by its statements; each theorem bears its own conditions. -/
import Derived.Test.YteplbljjlbdhaaaGreatDoorZ28
import Derived.Test.YteplbljjlbdhaaaGreatDoorZ1
import Derived.Shelf.Unicode.ValidAny
namespace Go.Proofs.YteplbljjlbdhaaaGreatDoor
open Go.RowKit
set_option linter.unusedVariables false
set_option linter.unusedSimpArgs false
set_option linter.unusedSectionVars false
set_option maxHeartbeats 16000000
set_option maxRecDepth 100000
def Bld (B b : Nat) (l : List UInt8) (w : World) : Prop := Lib.IsBuilderF 117 5 B b (Lib.byteCells l) w
structure Bk (B b : Nat) (w w' : World) : Prop where
 bel : Below B w w'
 oth : Lib.OthersKept 5 (some b) w w'
theorem Bk.refl (B b : Nat) (w : World) : Bk B b w w := ⟨Below.refl _ _, Lib.OthersKept.refl _ _ _⟩
theorem Bk.trans {B b : Nat} {u v w : World} (h : Bk B b u v) (k : Bk B b v w) : Bk B b u w := ⟨h.bel.trans k.bel, h.oth.trans k.oth⟩
theorem Bk.size {B b : Nat} {u v : World} (h : Bk B b u v) : u.heap.size ≤ v.heap.size := h.bel.size
theorem wstr (B b : Nat) (l s : List UInt8) (w : World) (h : Bld B b l w) (hlen : l.length + s.length ≤ 140737488355328) (hBw : B ≤ w.heap.size) :
  Calls Tryz.prog 68 #[Ptr b, S s] w fun e w' => e = .returned (.tuple #[I s.length, .nilIface]) ∧ Bld B b (l ++ s) w' ∧ Bk B b w w' :=
 (Tryz.Builder_WriteString_k B b (Lib.byteCells l) ⟨s.toArray⟩ w h (by rw [Lib.byteCells_length]; simpa [ByteArray.size] using hlen) hBw).mono fun e w' ⟨h1, h2, h3, h4⟩ =>
  ⟨by rw [h1]; simp [ByteArray.size], by unfold Bld; rw [Lib.byteCells_append]; exact Or.inr h2, ⟨h3, h4⟩⟩
theorem bstr (B b : Nat) (l : List UInt8) (w : World) (h : Bld B b l w) (hBw : B ≤ w.heap.size) :
  Calls Tryz.prog 69 #[Ptr b] w fun e w' => e = .returned (S l) ∧ Bld B b l w' ∧ Bk B b w w' :=
 (Tryz.Builder_String_any_k B b l w h hBw).mono fun e w' ⟨h1, h2, h3, h4⟩ => ⟨h1, h2, ⟨h3, h4⟩⟩
theorem take_byteAt (l : List UInt8) (k : Nat) (h : k < l.length) : l.take (k + 1) = l.take k ++ [byteAt l k] := by
 rw [List.take_succ_eq_append_getElem h, byteAt_eq l k h]
structure Tabs (w : World) : Prop where
 u8 : Lib.Utf8Tabs 1 2 w
 ml : ∃ m : Int, w.cell? ⟨0, 0, none⟩ = some (I m)
theorem Kept.cellOf {w w' : World} (h : Kept [] w w') {p : Addr} {v : Value} (hc : w.cell? p = some v) : w'.cell? p = some v := by
 have hb : p.block < w.heap.size := by
  rcases Nat.lt_or_ge p.block w.heap.size with h1 | h1
  ·exact h1
  ·unfold World.cell? at hc; rw [Array.getElem?_eq_none h1] at hc; cases hc
 rw [h.cell hb (by simp), hc]
theorem Tabs.kept {w w' : World} (h : Tabs w) (k : Kept [] w w') : Tabs w' :=
 ⟨⟨fun c hc => k.cellOf (h.u8.1 c hc), fun i hi => ⟨k.cellOf (h.u8.2 i hi).1, k.cellOf (h.u8.2 i hi).2⟩⟩, by obtain ⟨m, hm⟩ := h.ml; exact ⟨m, k.cellOf hm⟩⟩
theorem Kept.of_below0 {w w' : World} (h : Below w.heap.size w w') : Kept [] w w' := Kept.of_below h (Nat.le_refl _)
theorem valid_any (l : List UInt8) (w : World) (hl : l.length ≤ 9223372036854775807) (hT : Tabs w) :
  Calls Tryz.prog 98 #[S l] w fun e w' => e = .returned (.bool (WX.textB l)) ∧ Kept [] w w' :=
 (Any.utf8_ValidString Tryz.lays196 ⟨l.toArray⟩ w (by simpa [ByteArray.size] using hl) hT.u8).mono fun e w' ⟨h1, h2⟩ => ⟨by rw [h1, WX.validD_text], Kept.of_below0 h2⟩
theorem text_any (l : List UInt8) (w : World) (hl : l.length ≤ 9223372036854775807) (hT : Tabs w) :
  Calls Tryz.prog 66 #[S l] w fun e w' => e = .returned (.bool (WX.textB l)) ∧ Kept [] w w' := by
 go_enter Tryz.func66, Tryz.ntmps66
 go_wp2_with (fail)
 refine (valid_any l w hl hT).mono ?_
 rintro e w1 ⟨rfl, k1⟩
 go_wp2
 go_ret
 exact ⟨rfl, k1⟩
theorem drop_ne {l : List UInt8} {p : Nat} (h : p < l.length) : l.drop p ≠ [] := by intro e; have h2 := congrArg List.length e; rw [List.length_drop, List.length_nil] at h2; omega
theorem runeF_ok {l : List UInt8} (h : WX.isOk l = true) : runeF l = WX.dec l := by unfold runeF; rw [if_pos h]
theorem runeF_no {l : List UInt8} (h : WX.isOk l = false) : runeF l = (0, 0) := by unfold runeF; rw [if_neg (by simp [h])]
theorem Kept.iterAt {K : List Nat} {a w : World} (h : Kept K a w) {k : Nat} (hk : a.heap.size ≤ k) (s : ByteArray) (p : Nat) : Kept K a (w.iterAt k s p) :=
 ⟨h.os, h.tape, h.output, by rw [Lib.iterAt_size]; exact h.size, fun i hi hn => by
  rw [Lib.iterAt_other _ _ _ _ _ (by omega)]; exact h.block i hi hn⟩
theorem nameB_no {l : List UInt8} (h : l = [] ∨ 24 < l.length ∨ l = [46] ∨ l = [46, 46] ∨ WX.textB l = false) : WX.nameB l = false := by
 cases hn : WX.nameB l with
 | false => rfl
 | true =>
  exfalso
  have ht := WX.nameB_text hn
  unfold WX.nameB at hn
  simp only [Bool.and_eq_true, bne_iff_ne, Bool.not_eq_true', decide_eq_true_eq] at hn
  rcases h with rfl | h | rfl | rfl | h
  ·simp at hn
  ·omega
  ·simp at hn
  ·simp at hn
  ·rw [h] at ht; cases ht
theorem nameB_go {l : List UInt8} (h1 : l ≠ []) (h2 : l.length ≤ 24) (h3 : l ≠ [46]) (h4 : l ≠ [46, 46]) : WX.nameB l = (WX.units l).all WX.nameU := by
 have : l.isEmpty = false := by cases l; exact absurd rfl h1; rfl
 simp [WX.nameB, this, h2, h3, h4]
theorem iter_at (w : World) (o : Obj) (k : Nat) (h : k = w.heap.size) : (w.alloc o).heap[k]? = some o := by subst h; exact heap_new w o
theorem name_any (l : List UInt8) (w : World) (hl : l.length ≤ 4611686018427387904) (hT : Tabs w) :
  Calls Tryz.prog 24 #[S l] w fun e w' => e = .returned (.bool (WX.nameB l)) ∧ Kept [] w w' := by
 have hl' : (l.length : Int) ≤ 4611686018427387904 := by omega
 have HT := Lib.hid hT
 clear hT
 by_cases c1 : l = []
 ·have hr := Lib.hid (nameB_no (.inl c1))
  have e1 : l.isEmpty = true := by rw [c1]; rfl
  clear c1
  go_enter Tryz.func24, Tryz.ntmps24
  go_wp2
  go_ret
  exact ⟨ret_B hr.out.symm, Kept.refl _ _⟩
 have e1 : l.isEmpty = false := by cases l; exact absurd rfl c1; rfl
 by_cases c2 : 24 < l.length
 ·have hr := Lib.hid (nameB_no (.inr (.inl c2)))
  have c2' : (24 : Int) < l.length := by omega
  have C1 := Lib.hid c1
  clear c1
  go_enter Tryz.func24, Tryz.ntmps24
  go_wp2
  go_ret
  exact ⟨ret_B hr.out.symm, Kept.refl _ _⟩
 have c2' : ¬ (24 : Int) < l.length := by omega
 by_cases c3 : l = [46]
 ·have hr := Lib.hid (nameB_no (.inr (.inr (.inl c3))))
  have e3 : (l == [46]) = true := by rw [c3]; rfl
  have C1 := Lib.hid c1
  clear c1 c3
  go_enter Tryz.func24, Tryz.ntmps24
  go_wp2
  go_ret
  exact ⟨ret_B hr.out.symm, Kept.refl _ _⟩
 have e3 : (l == [46]) = false := by simpa using c3
 by_cases c4 : l = [46, 46]
 ·have hr := Lib.hid (nameB_no (.inr (.inr (.inr (.inl c4)))))
  have e4 : (l == [46, 46]) = true := by rw [c4]; rfl
  have C1 := Lib.hid c1
  clear c1 c3 c4
  go_enter Tryz.func24, Tryz.ntmps24
  go_wp2
  go_ret
  exact ⟨ret_B hr.out.symm, Kept.refl _ _⟩
 have e4 : (l == [46, 46]) = false := by simpa using c4
 have hgo := Lib.hid (nameB_go c1 (by omega) c3 c4)
 clear c1 c2 c3 c4
 cases ht : WX.textB l with
 | false =>
  have hr := Lib.hid (nameB_no (.inr (.inr (.inr (.inr ht)))))
  have H := Lib.hid ht
  clear ht
  go_enter Tryz.func24, Tryz.ntmps24
  go_wp2_with (fail)
  refine (text_any l w (by omega) HT.out).mono ?_
  rintro e w1 ⟨rfl, k1⟩
  rw [H.out]
  go_wp2
  go_ret
  exact ⟨ret_B hr.out.symm, k1⟩
 | true =>
  have H := Lib.hid ht
  clear ht
  go_enter Tryz.func24, Tryz.ntmps24
  go_wp2_with (fail)
  refine (text_any l w (by omega) HT.out).mono ?_
  rintro e w1 ⟨rfl, k1⟩
  rw [H.out]
  have K1 := Lib.hid k1
  have Z1 := k1.size
  clear k1
  go_wp2_with (fail)
  go_loopw [4] (fun _ wr => ∃ p : Nat, p ≤ l.length ∧ wr.heap[w1.heap.size]? = some (.stringIter ⟨l.toArray⟩ p) ∧ Kept [] w wr ∧ WX.textB (l.drop p) = true ∧ (WX.units (l.drop p)).all WX.nameU = (WX.units l).all WX.nameU) (fun _ wr => l.length - wr.iterPos w1.heap.size)
  case atStart =>
   refine ⟨0, by omega, iter_at _ _ _ rfl, K1.out.alloc _, H.out, rfl⟩
  case round =>
   obtain ⟨p, hp, hit, hk, ht, hu⟩ := hrel
   have HK := Lib.hid (And.intro hk (And.intro ht hu))
   have Zs : w1.heap.size < wr.heap.size := (Array.getElem?_eq_some_iff.1 hit).1
   clear hk ht hu
   by_cases hlt : p < l.length
   ·have hne := drop_ne hlt
    have hps : p < (⟨l.toArray⟩ : ByteArray).size := by simpa [ByteArray.size] using hlt
    have hnx : ∀ ty, (Instr.next (.pointer (some ⟨w1.heap.size, 0, none⟩)) true ty).run Tryz.prog wr = _ := fun ty => Lib.run_next_any_at wr w1.heap.size ⟨l.toArray⟩ p ty hit hps
    rw [show Utf8.decode ⟨l.toArray⟩ p = WX.dec (l.drop p) from WX.decode_dec _ _] at hnx
    have hit2 := Lib.iterAt_heap wr w1.heap.size ⟨l.toArray⟩ p (p + (WX.dec (l.drop p)).2) hit
    have hok : WX.isOk (l.drop p) = true := by have := HK.out.2.1; rw [WX.textB_cons _ hne, Bool.and_eq_true] at this; exact this.1
    have hw := WX.dec_width _ hne
    rw [List.length_drop] at hw
    have hall := WX.units_all _ hne WX.nameU
    rw [List.drop_drop] at hall
    have htx := HK.out.2.1
    rw [WX.textB_cons _ hne, hok, Bool.true_and, List.drop_drop] at htx
    have hun : WX.nameU (WX.unit1 (l.drop p)) = (WX.plainN (WX.dec (l.drop p)).1 && (WX.dec (l.drop p)).1 != 47) := by unfold WX.unit1 WX.nameU; rw [hok]; rfl
    generalize hd : WX.dec (l.drop p) = d at *
    obtain ⟨r, m⟩ := d
    simp only at hw hnx hit2 hall htx hun
    have HA := Lib.hid (And.intro hit (And.intro hit2 (And.intro hok (And.intro hall (And.intro htx hun)))))
    have HW := Lib.hid hw
    have HD := Lib.hid hd
    clear hit hit2 hok hall htx hun hw hd hne
    cases hpl : WX.plainN r with
    | false =>
     have HP := Lib.hid hpl
     clear hpl
     go_wp2_with (fail)
     refine (plain_any r _).mono ?_
     rintro e w2 ⟨rfl, rfl⟩
     rw [HP.out]
     go_wp2
     go_ret
     refine ⟨ret_B ?_, HK.out.1.iterAt (by omega) _ _⟩
     rw [hgo.out, ← HK.out.2.2, HA.out.2.2.2.1, HA.out.2.2.2.2.2, HP.out]; rfl
    | true =>
     have HP := Lib.hid hpl
     clear hpl
     cases h47 : ((r : Int) == 47) with
     | true =>
      go_wp2_with (fail)
      refine (plain_any r _).mono ?_
      rintro e w2 ⟨rfl, rfl⟩
      rw [HP.out]
      go_wp2
      go_ret
      refine ⟨ret_B ?_, HK.out.1.iterAt (by omega) _ _⟩
      have : r = 47 := by simp at h47; omega
      rw [hgo.out, ← HK.out.2.2, HA.out.2.2.2.1, HA.out.2.2.2.2.2, HP.out, this]; rfl
     | false =>
      go_wp2_with (fail)
      refine (plain_any r _).mono ?_
      rintro e w2 ⟨rfl, rfl⟩
      rw [HP.out]
      go_wp2
      go_roundw
      case rel =>
       have hr47 : r ≠ 47 := by simp at h47; omega
       refine ⟨p + m, by have := HW.out; omega, HA.out.2.1, HK.out.1.iterAt (by omega) _ _, HA.out.2.2.2.2.1, ?_⟩
       rw [← HK.out.2.2, HA.out.2.2.2.1, HA.out.2.2.2.2.2, HP.out]
       simp [hr47]
      case measure =>
       have := HW.out
       simp only [World.iterPos, HA.out.2.1, HA.out.1]
       omega
   ·have hps : ¬ p < (⟨l.toArray⟩ : ByteArray).size := by simpa [ByteArray.size] using hlt
    have hnx : ∀ ty, (Instr.next (.pointer (some ⟨w1.heap.size, 0, none⟩)) true ty).run Tryz.prog wr = _ := fun ty => Lib.run_next_end_at wr w1.heap.size ⟨l.toArray⟩ p ty hit hps
    obtain rfl : p = l.length := by omega
    clear hit
    go_wp2
    go_ret
    refine ⟨ret_B ?_, HK.out.1⟩
    rw [hgo.out, ← HK.out.2.2, List.drop_length]; rfl
def StrsAt (w : World) (v : Value) (ss : List (List UInt8)) : Prop :=
 ∃ (p : Option Addr) (cap : Nat), v = .slice p ss.length cap ∧ ss.length ≤ cap ∧ ss.length ≤ 140737488355328 ∧ (p = none → cap = 0) ∧ (ss ≠ [] → ∃ b off, p = some ⟨b, off, none⟩ ∧ ∀ (i : Nat), i < ss.length → w.cell? ⟨b, off + i, none⟩ = some (S (ss.getD i [])))
theorem StrsAt.kept {w w' : World} {v : Value} {ss : List (List UInt8)} (h : StrsAt w v ss) (k : Kept [] w w') : StrsAt w' v ss := by
 obtain ⟨p, cap, hv, hl, hl2, hnn, hc⟩ := h
 refine ⟨p, cap, hv, hl, hl2, hnn, fun hne => ?_⟩
 obtain ⟨b, off, hp, hcell⟩ := hc hne
 exact ⟨b, off, hp, fun i hi => k.cellOf (hcell i hi)⟩
theorem StrsAt.nil (w : World) : StrsAt w (.slice none 0 0) [] := ⟨none, 0, rfl, by simp, by simp, fun _ => rfl, fun h => absurd rfl h⟩
theorem cells_map (w : World) (b : Nat) (ss : List (List UInt8)) (h : w.heap[b]? = some (.cells (ss.map S).toArray 9 (0, 0))) (i : Nat) (hi : i < ss.length) : w.cell? ⟨b, 0 + i, none⟩ = some (S (ss.getD i [])) := by
 rw [cell_at h]; simp [List.getD, hi]
theorem StrsAt.new {w : World} {b cap : Nat} {ss : List (List UInt8)} (h : w.heap[b]? = some (.cells (ss.map S).toArray 9 (0, 0))) (hc : ss.length ≤ cap) (hc2 : ss.length ≤ 140737488355328) : StrsAt w (.slice (some ⟨b, 0, none⟩) ss.length cap) ss :=
 ⟨_, _, rfl, hc, hc2, (fun h => by cases h), fun _ => ⟨b, 0, rfl, fun i hi => cells_map w b ss h i hi⟩⟩
theorem getD_eq {α : Type} (l : List α) (i : Nat) (d : α) (h : i < l.length) : l.getD i d = l[i] := by simp [List.getD, h]
theorem take_getD {α : Type} (l : List α) (i : Nat) (d : α) (h : i < l.length) : l.take (i + 1) = l.take i ++ [l.getD i d] := by
 rw [List.take_succ_eq_append_getElem h, getD_eq l i d h]
theorem ne_of_take {α : Type} (d : α) (a b : List α) (i : Nat) (ha : i < a.length) (hb : i < b.length) (h : a.getD i d ≠ b.getD i d) : a ≠ b := by intro e; subst e; exact h rfl
theorem same_any (va vb : Value) (xs ys : List (List UInt8)) (w : World) (ha : StrsAt w va xs) (hb : StrsAt w vb ys) :
  Calls Tryz.prog 30 #[va, vb] w fun e w' => e = .returned (.bool (decide (xs = ys))) ∧ Kept [] w w' := by
 obtain ⟨p, ca, rfl, hla, hla2, _, hca⟩ := ha
 obtain ⟨q, cb, rfl, hlb, hlb2, _, hcb⟩ := hb
 have hx : (xs.length : Int) ≤ 140737488355328 := by omega
 by_cases hn : xs.length = ys.length
 ·have en : ((xs.length : Int) != ys.length) = false := by simp [hn]
  have HN := Lib.hid hn
  by_cases h0 : xs = []
  ·have hy : ys = [] := by apply List.eq_nil_of_length_eq_zero; rw [← hn, h0]; rfl
   subst h0; subst hy
   clear hn HN en
   go_enter Tryz.func30, Tryz.ntmps30
   go_wp2
   go_loop [5] (fun i => i = I 0) (fun _ => 0)
   case atStart => exact rfl
   case round =>
    subst hrel
    go_wp2
    go_ret
    exact ⟨rfl, Kept.refl _ _⟩
  ·have hy : ys ≠ [] := by intro e; apply h0; apply List.eq_nil_of_length_eq_zero; rw [hn, e]; rfl
   obtain ⟨b1, o1, rfl, hc1⟩ := hca h0
   obtain ⟨b2, o2, rfl, hc2⟩ := hcb hy
   have HC := Lib.hid (And.intro hc1 hc2)
   clear hca hcb hc1 hc2 hn h0 hy
   go_enter Tryz.func30, Tryz.ntmps30
   go_wp2
   go_loopw [5] (fun i wr => ∃ k : Nat, k ≤ xs.length ∧ i = I k ∧ xs.take k = ys.take k ∧ Kept [] w wr) (fun i _ => xs.length - (intOf i).toNat)
   case atStart => exact ⟨0, by omega, rfl, by simp, Kept.refl _ _⟩
   case round =>
    obtain ⟨k, hk, rfl, ht, hkw⟩ := hrel
    by_cases hlt : k < xs.length
    ·have hlt' : (k : Int) < xs.length := by omega
     have hlt2 : (k : Int) < ys.length := by rw [← HN.out]; exact hlt'
     have x1 := hkw.cellOf (HC.out.1 k hlt)
     have x2 := hkw.cellOf (HC.out.2 k (by have := HN.out; omega))
     have HT := Lib.hid (And.intro ht hkw)
     clear ht hkw
     obtain ⟨x, hx1⟩ : ∃ x, xs.getD k [] = x := ⟨_, rfl⟩
     obtain ⟨y, hy1⟩ : ∃ y, ys.getD k [] = y := ⟨_, rfl⟩
     rw [hx1] at x1
     rw [hy1] at x2
     have HX := Lib.hid (And.intro hx1 hy1)
     clear hx1 hy1
     by_cases hq : x = y
     ·have hqb : (x == y) = true := by simpa using hq
      have HQ := Lib.hid hq
      clear hq
      go_wp2_with (fail)
      go_quiet (fail)
      go_wp2
      go_roundw
      case rel =>
       refine ⟨k + 1, by omega, by go_num, ?_, HT.out.2.drewN _⟩
       rw [take_getD xs k [] hlt, take_getD ys k [] (by have := HN.out; omega), HT.out.1, HX.out.1, HX.out.2, HQ.out]
      case measure => simp [intOf]; omega
     ·have hqb : (x == y) = false := by simpa using hq
      have hne : xs ≠ ys := ne_of_take [] xs ys k hlt (by have := HN.out; omega) (by rw [HX.out.1, HX.out.2]; exact hq)
      have HQ := Lib.hid hne
      clear hq hne
      go_wp2_with (fail)
      go_quiet (fail)
      go_wp2
      go_ret
      exact ⟨ret_B (by rw [decide_eq_false HQ.out]), HT.out.2.drewN _⟩
    ·obtain rfl : k = xs.length := by omega
     have he : xs = ys := by rw [List.take_length] at ht; rw [ht, HN.out, List.take_length]
     have HE := Lib.hid (And.intro he hkw)
     clear he ht hkw
     go_wp2
     go_ret
     exact ⟨ret_B (by rw [decide_eq_true HE.out.1]), HE.out.2⟩
 ·have en : ((xs.length : Int) != ys.length) = true := by simp; omega
  have hne : xs ≠ ys := by intro e; apply hn; rw [e]
  have HQ := Lib.hid hne
  clear hn hne
  go_enter Tryz.func30, Tryz.ntmps30
  go_wp2
  go_ret
  exact ⟨ret_B (by rw [decide_eq_false HQ.out]), Kept.refl _ _⟩
theorem SJ (l : List UInt8) : (⟨l.toArray⟩ : ByteArray).data.toList = l := rfl
theorem joinF_no {ns : List (List UInt8)} (h : 8 < ns.length ∨ ns.all WX.nameB = false) : WX.joinF ns = ([], 10) := by
 unfold WX.joinF
 rw [if_neg]
 rintro ⟨h1, h2⟩
 rcases h with h | h
 ·omega
 ·rw [h] at h2; cases h2
theorem all_take_no {p : List UInt8 → Bool} {ns : List (List UInt8)} {k : Nat} (h : k < ns.length) (hp : p (ns.getD k []) = false) : ns.all p = false := by
 rw [Bool.eq_false_iff]
 intro ha
 rw [getD_eq _ _ _ h] at hp
 rw [List.all_eq_true.1 ha _ (List.getElem_mem h)] at hp
 cases hp
theorem pieces_of_split (l : List UInt8) : (Lib.splitB ⟨#[47]⟩ 0 (Lib.countB ⟨l.toArray⟩ ⟨#[47]⟩) ⟨l.toArray⟩).map Value.string = (WX.pieces 47 l).map S := by
 have h := Lib.splitB_data ⟨#[47]⟩ 0 (Lib.countB ⟨l.toArray⟩ ⟨#[47]⟩) ⟨l.toArray⟩
 have h2 : Lib.splitK [47] 0 (Lib.count l [47]) l = WX.pieces 47 l := WX.splitK_pieces 47 l
 have h3 : (Lib.splitB ⟨#[47]⟩ 0 (Lib.countB ⟨l.toArray⟩ ⟨#[47]⟩) ⟨l.toArray⟩).map (·.data.toList) = WX.pieces 47 l := by rw [h]; exact h2
 rw [← h3, List.map_map]
 apply List.map_congr_left
 intro x _
 show Value.string x = Value.string ⟨x.data.toList.toArray⟩
 rfl
theorem pieces_count (l : List UInt8) : Lib.countB ⟨l.toArray⟩ ⟨#[47]⟩ + 1 = (WX.pieces 47 l).length := by
 have h1 := Lib.splitB_all ⟨#[47]⟩ (by decide) 0 _ ⟨l.toArray⟩ rfl
 have h2 := congrArg List.length (pieces_of_split l)
 rw [List.length_map, List.length_map] at h2
 rw [← h2]; exact h1.symm
theorem split_any (l : List UInt8) (w : World) (hl : l.length < 4294967281) (hT : Tabs w) :
  Calls Tryz.prog 121 #[S l, S [47]] w fun e w' => e = .returned (.slice (some ⟨w.heap.size, 0, none⟩) (WX.pieces 47 l).length (WX.pieces 47 l).length) ∧ w.alloc (.cells ((WX.pieces 47 l).map S).toArray 9) = w' := by
 obtain ⟨m, hm⟩ := hT.ml
 refine (Tryz.strings_Split ⟨l.toArray⟩ ⟨#[47]⟩ m w (by simpa [ByteArray.size] using hl) hm (by decide)).mono fun e w' ⟨h1, h2⟩ => ?_
 rw [pieces_count, ] at h1
 rw [pieces_of_split] at h2
 exact ⟨h1, h2.symm⟩
theorem pieces_len (l : List UInt8) : (WX.pieces 47 l).length ≤ l.length + 1 := by
 induction l with
 | nil => simp [WX.pieces]
 | cons b l ih =>
  unfold WX.pieces
  split
  ·simp; omega
  ·split <;> (rename_i h; rw [h] at ih; simp at ih ⊢; try omega)
theorem pieces_mem (l : List UInt8) : ∀ p ∈ WX.pieces 47 l, p.length ≤ l.length := by
 induction l with
 | nil => intro p hp; simp [WX.pieces] at hp; subst hp; simp
 | cons b l ih =>
  intro p hp
  unfold WX.pieces at hp
  split at hp
  ·rw [List.mem_cons] at hp
   rcases hp with rfl | hp
   ·simp
   ·have := ih p hp; simp; omega
  ·split at hp
   ·rename_i q qs h
    rw [h] at ih
    rw [List.mem_cons] at hp
    rcases hp with rfl | hp
    ·have := ih q (by simp); simp; omega
    ·have := ih p (by simp [hp]); simp; omega
   ·rename_i h; exact absurd h (WX.pieces_ne 47 l)
def NewStrs (base : Nat) (w : World) (v : Value) (ns : List (List UInt8)) : Prop :=
 (ns = [] ∧ v = .slice none 0 0) ∨ ∃ b, base ≤ b ∧ v = .slice (some ⟨b, 0, none⟩) ns.length ns.length ∧ ns.length ≤ 8 ∧ w.heap[b]? = some (.cells (ns.map S).toArray 9 (0, 0))
theorem NewStrs.at {base : Nat} {w : World} {v : Value} {ns : List (List UInt8)} (h : NewStrs base w v ns) : StrsAt w v ns := by
 rcases h with ⟨rfl, rfl⟩ | ⟨b, hb, rfl, h8, hh⟩
 ·exact StrsAt.nil w
 ·exact StrsAt.new hh (Nat.le_refl _) (by omega)
def PathPost (w : World) (res : Option (List (List UInt8))) (e : Ending) (w' : World) : Prop :=
 (match res with | none => e = .returned (.tuple #[.slice none 0 0, I 10]) | some ns => ∃ v, e = .returned (.tuple #[v, I 0]) ∧ NewStrs w.heap.size w' v ns) ∧ Kept [] w w'
theorem PathPost.no {w w' : World} {res : Option (List (List UInt8))} (h : res = none) (k : Kept [] w w') : PathPost w res (.returned (.tuple #[.slice none 0 0, I 10])) w' := by subst h; exact ⟨rfl, k⟩
theorem PathPost.yes {w w' : World} {res : Option (List (List UInt8))} {ns : List (List UInt8)} {v : Value} (h : res = some ns) (hn : NewStrs w.heap.size w' v ns) (k : Kept [] w w') : PathPost w res (.returned (.tuple #[v, I 0])) w' := by subst h; exact ⟨⟨v, rfl, hn⟩, k⟩
theorem cutprefix_any (l : List UInt8) (r : List UInt8) (b : Bool) (w : World) (h1 : Lib.trimPrefix l [47] = r) (h2 : Lib.hasPrefix l [47] = b) :
  Calls Tryz.prog 120 #[S l, S [47]] w fun e w' => e = .returned (.tuple #[S r, .bool b]) ∧ w = w' :=
 (Tryz.strings_CutPrefix ⟨l.toArray⟩ ⟨#[47]⟩ w).mono fun e w' ⟨he, hw⟩ => ⟨by rw [he]; simp only [SJ]; rw [show Lib.trimPrefix l [47] = r from h1, show Lib.hasPrefix l [47] = b from h2], hw.symm⟩
theorem trim_yes (t : List UInt8) : Lib.trimPrefix (47 :: t) [47] = t ∧ Lib.hasPrefix (47 :: t) [47] = true := by
 have h : Lib.hasPrefix (47 :: t) [47] = true := by simp [Lib.hasPrefix, List.isPrefixOf]
 exact ⟨by unfold Lib.trimPrefix; rw [h]; rfl, h⟩
theorem trim_no (l : List UInt8) (hh : l.head? ≠ some 47) : Lib.trimPrefix l [47] = l ∧ Lib.hasPrefix l [47] = false := by
 have h : Lib.hasPrefix l [47] = false := by
  cases l with
  | nil => rfl
  | cons c t => simp [Lib.hasPrefix, List.isPrefixOf]; intro e; apply hh; rw [e]; rfl
 exact ⟨by unfold Lib.trimPrefix; rw [h]; rfl, h⟩
theorem path_no {l : List UInt8} (h1 : l ≠ [47]) (h : l.head? ≠ some 47 ∨ 8 < (WX.pieces 47 (l.drop 1)).length ∨ (WX.pieces 47 (l.drop 1)).all WX.nameB = false) : WX.pathF l = none := by
 unfold WX.pathF
 rw [if_neg h1, if_neg]
 rintro ⟨a, b, c⟩
 rcases h with h | h | h
 ·exact h a
 ·omega
 ·rw [h] at c; cases c
theorem path_any (l : List UInt8) (w : World) (hl : l.length < 4294967281) (hT : Tabs w) :
  Calls Tryz.prog 88 #[S l] w (PathPost w (WX.pathF l)) := by
 have HT := Lib.hid hT
 clear hT
 by_cases h47 : l = [47]
 ·subst h47
  have hf : Hid (WX.pathF [47] = some []) := by unfold Hid; rfl
  go_enter Tryz.func88, Tryz.ntmps88
  go_wp2
  go_ret2
  exact PathPost.yes hf.out (.inl ⟨rfl, rfl⟩) (Kept.refl _ _)
 have hb47 : (l == [47]) = false := by simpa using h47
 by_cases hh : l.head? = some 47
 ·obtain ⟨t, rfl⟩ : ∃ t, l = 47 :: t := by
   cases l with
   | nil => cases hh
   | cons c t => simp at hh; subst hh; exact ⟨t, rfl⟩
  have htl : t.length < 4294967281 := by simp at hl; omega
  have hpl := pieces_len t
  have hpm := pieces_mem t
  have hcell := heap_new w (.cells ((WX.pieces 47 t).map S).toArray 9)
  have hno := path_no (l := 47 :: t) h47
  have hyes : ¬ 8 < (WX.pieces 47 t).length → (WX.pieces 47 t).all WX.nameB = true → WX.pathF (47 :: t) = some (WX.pieces 47 t) := fun h1 h2 => by
   unfold WX.pathF; rw [if_neg h47]; simp only [List.drop_succ_cons, List.drop_zero, List.head?_cons]; rw [if_pos ⟨trivial, by omega, h2⟩]
  have hz : WX.pieces 47 t ≠ [] := WX.pieces_ne 47 t
  have hsp := split_any t w htl HT.out
  simp only [List.drop_succ_cons, List.drop_zero] at hno
  generalize WX.pieces 47 t = ps at *
  have HH := Lib.hid (And.intro hcell (And.intro hno (And.intro hyes (And.intro hpm hsp))))
  have hlen : (ps.length : Int) ≤ 4294967282 := by omega
  have hpos : (0 : Int) < ps.length := by have := List.length_pos_iff.2 hz; omega
  clear hcell hno hyes hpm hsp h47 hh hz
  by_cases h8 : 8 < ps.length
  ·have h8' : (8 : Int) < ps.length := by omega
   have hf := Lib.hid (HH.out.2.1 (.inr (.inl h8)))
   go_enter Tryz.func88, Tryz.ntmps88
   go_wp2_with (fail)
   refine (cutprefix_any _ t true _ (trim_yes t).1 (trim_yes t).2).mono ?_
   rintro e w1 ⟨rfl, rfl⟩
   go_wp2_with (fail)
   refine HH.out.2.2.2.2.mono ?_
   rintro e w1 ⟨rfl, rfl⟩
   go_wp2
   go_ret2
   exact PathPost.no hf.out ((Kept.refl _ _).alloc _)
  have h8' : ¬ (8 : Int) < ps.length := by omega
  go_enter Tryz.func88, Tryz.ntmps88
  go_wp2_with (fail)
  refine (cutprefix_any _ t true _ (trim_yes t).1 (trim_yes t).2).mono ?_
  rintro e w1 ⟨rfl, rfl⟩
  go_wp2_with (fail)
  refine HH.out.2.2.2.2.mono ?_
  rintro e w1 ⟨rfl, rfl⟩
  go_wp2
  go_loopw [8, 27] (fun _ i wr => ∃ k : Nat, k ≤ ps.length ∧ i = I k ∧ (ps.take k).all WX.nameB = true ∧ Kept [] (w.alloc (.cells (ps.map S).toArray 9)) wr) (fun _ i _ => ps.length - (intOf i).toNat)
  case atStart => exact ⟨0, by omega, rfl, rfl, Kept.refl _ _⟩
  case round =>
   obtain ⟨k, hk, rfl, ht, hkw⟩ := hrel
   have hblk := hkw.at HH.out.1 (by simp)
   have K0 : Kept [] w wr := ((Kept.refl [] w).alloc _).trans' hkw
   by_cases hlt : k < ps.length
   ·have hlt' : (k : Int) < ps.length := by omega
    have x1 := cells_map wr _ ps hblk k hlt
    rw [Nat.zero_add] at x1
    have HT2 := Lib.hid (And.intro ht K0)
    have HKW := Lib.hid hkw
    clear ht hkw hblk K0
    obtain ⟨x, hx1⟩ : ∃ x, ps.getD k [] = x := ⟨_, rfl⟩
    rw [hx1] at x1
    have HX := Lib.hid hx1
    have hxl : x.length ≤ 4611686018427387904 := by rw [← hx1, getD_eq _ _ _ hlt]; have := HH.out.2.2.2.1 _ (List.getElem_mem hlt); omega
    clear hx1
    cases hb : WX.nameB x with
    | true =>
     have HB := Lib.hid hb
     clear hb
     go_wp2_with (fail)
     refine (name_any x _ hxl (HT.out.kept HT2.out.2)).mono ?_
     rintro e w1 ⟨rfl, k1⟩
     rw [HB.out]
     go_wp2
     go_roundw
     case rel =>
      refine ⟨k + 1, by omega, by go_num, ?_, HKW.out.trans' k1⟩
      rw [take_getD ps k [] hlt, List.all_append, HT2.out.1, HX.out]
      simp [HB.out]
     case measure => simp [intOf]; omega
    | false =>
     have hf := Lib.hid (HH.out.2.1 (.inr (.inr (all_take_no hlt (by rw [HX.out]; exact hb)))))
     have HB := Lib.hid hb
     clear hb
     go_wp2_with (fail)
     refine (name_any x _ hxl (HT.out.kept HT2.out.2)).mono ?_
     rintro e w1 ⟨rfl, k1⟩
     rw [HB.out]
     go_wp2
     go_ret2
     exact PathPost.no hf.out (HT2.out.2.trans' k1)
   ·obtain rfl : k = ps.length := by omega
    rw [List.take_length] at ht
    have hf := Lib.hid (HH.out.2.2.1 h8 ht)
    have HB := Lib.hid (And.intro hblk K0)
    clear ht hkw hblk K0
    go_wp2
    go_ret2
    exact PathPost.yes hf.out (.inr ⟨_, Nat.le_refl _, rfl, by omega, HB.out.1⟩) HB.out.2
 ·obtain ⟨t1, t2⟩ := trim_no l hh
  have hf := Lib.hid (path_no h47 (.inl hh))
  have TT := Lib.hid (And.intro t1 t2)
  clear t1 t2 h47 hh
  go_enter Tryz.func88, Tryz.ntmps88
  go_wp2_with (fail)
  refine (cutprefix_any _ l false _ TT.out.1 TT.out.2).mono ?_
  rintro e w1 ⟨rfl, rfl⟩
  go_wp2_with (fail)
  refine (split_any l w hl HT.out).mono ?_
  rintro e w1 ⟨rfl, rfl⟩
  go_wp2
  go_ret2
  exact PathPost.no hf.out ((Kept.refl _ _).alloc _)
theorem path_yes (l : List UInt8) (ns : List (List UInt8)) (w : World) (h : WX.pathF l = some ns) (hl : l.length < 4294967281) (hT : Tabs w) :
  Calls Tryz.prog 88 #[S l] w fun e w' => ∃ v, e = .returned (.tuple #[v, I 0]) ∧ NewStrs w.heap.size w' v ns ∧ Kept [] w w' :=
 (path_any l w hl hT).mono fun e w' hp => by
  unfold PathPost at hp; rw [h] at hp; obtain ⟨⟨v, h1, h2⟩, h3⟩ := hp; exact ⟨v, h1, h2, h3⟩
theorem path_bad (l : List UInt8) (w : World) (h : WX.pathF l = none) (hl : l.length < 4294967281) (hT : Tabs w) :
  Calls Tryz.prog 88 #[S l] w fun e w' => e = .returned (.tuple #[.slice none 0 0, I 10]) ∧ Kept [] w w' :=
 (path_any l w hl hT).mono fun e w' hp => by
  unfold PathPost at hp; rw [h] at hp; exact hp
theorem name_at (l : List UInt8) (b : Bool) (w : World) (h : WX.nameB l = b) (hl : l.length ≤ 4611686018427387904) (hT : Tabs w) :
  Calls Tryz.prog 24 #[S l] w fun e w' => e = .returned (.bool b) ∧ Kept [] w w' := h ▸ name_any l w hl hT
theorem same_at (va vb : Value) (xs ys : List (List UInt8)) (b : Bool) (w : World) (h : decide (xs = ys) = b) (ha : StrsAt w va xs) (hb : StrsAt w vb ys) :
  Calls Tryz.prog 30 #[va, vb] w fun e w' => e = .returned (.bool b) ∧ Kept [] w w' := h ▸ same_any va vb xs ys w ha hb
end Go.Proofs.YteplbljjlbdhaaaGreatDoor
