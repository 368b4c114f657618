/- Walks and lemmas on the program of this seat, used by its statements; each theorem bears its own conditions. -/
import Derived.Test.YtncdfaocemfgfaaGreatDoorW35
import Derived.Test.YtncdfaocemfgfaaGreatDoorW29
import Derived.Test.YtncdfaocemfgfaaGreatDoorW1
import Derived.Shelf.Unicode.ValidAny
import Derived.IntWalk
namespace Go.Proofs.YtncdfaocemfgfaaGreatDoor
open Go.RowKit
set_option linter.unusedVariables false
set_option linter.unusedSimpArgs false
set_option linter.unusedSectionVars false
section
open Go.RowKit
set_option linter.unusedVariables false
set_option linter.unusedSimpArgs false
def Bld (B b : Nat) (l : List UInt8) (w : World) : Prop := Lib.IsBuilderF 77 5 B b (Lib.byteCells l) w
structure Bk (B b : Nat) (w w' : World) : Prop where
  bel : Below B w w'
  oth : Lib.OthersKept 5 (some b) w w'
theorem Bk.refl (B b : Nat) (w : World) : Bk B b w w := ⟨Below.refl _ _, Lib.OthersKept.refl _ _ _⟩
theorem Bk.trans {B b : Nat} {u v w : World} (h : Bk B b u v) (k : Bk B b v w) : Bk B b u w := ⟨h.bel.trans k.bel, h.oth.trans k.oth⟩
theorem Bk.size {B b : Nat} {u v : World} (h : Bk B b u v) : u.heap.size ≤ v.heap.size := h.bel.size
theorem wstr (B b : Nat) (l s : List UInt8) (w : World) (h : Bld B b l w) (hlen : l.length + s.length ≤ 140737488355328) (hBw : B ≤ w.heap.size) :
    Calls Tryz.prog 35 #[Ptr b, S s] w fun e w' => e = .returned (.tuple #[I s.length, .nilIface]) ∧ Bld B b (l ++ s) w' ∧ Bk B b w w' :=
  (Tryz.Builder_WriteString_k B b (Lib.byteCells l) ⟨s.toArray⟩ w h (by rw [Lib.byteCells_length]; simpa [ByteArray.size] using hlen) hBw).mono fun e w' ⟨h1, h2, h3, h4⟩ =>
    ⟨by rw [h1]; simp [ByteArray.size], by unfold Bld; rw [Lib.byteCells_append]; exact Or.inr h2, ⟨h3, h4⟩⟩
theorem bstr (B b : Nat) (l : List UInt8) (w : World) (h : Bld B b l w) (hBw : B ≤ w.heap.size) :
    Calls Tryz.prog 36 #[Ptr b] w fun e w' => e = .returned (S l) ∧ Bld B b l w' ∧ Bk B b w w' :=
  (Tryz.Builder_String_any_k B b l w h hBw).mono fun e w' ⟨h1, h2, h3, h4⟩ => ⟨h1, h2, ⟨h3, h4⟩⟩
structure Tabs (w : World) : Prop where
  u8 : Lib.Utf8Tabs 1 2 w
  ml : ∃ m : Int, w.cell? ⟨0, 0, none⟩ = some (I m)
theorem Kept.cellOf {w w' : World} (h : Kept [] w w') {p : Addr} {v : Value} (hc : w.cell? p = some v) : w'.cell? p = some v := by
  have hb : p.block < w.heap.size := by
    rcases Nat.lt_or_ge p.block w.heap.size with h1 | h1
    · exact h1
    · unfold World.cell? at hc; rw [Array.getElem?_eq_none h1] at hc; cases hc
  rw [h.cell hb (by simp), hc]
theorem Tabs.kept {w w' : World} (h : Tabs w) (k : Kept [] w w') : Tabs w' :=
  ⟨⟨fun c hc => k.cellOf (h.u8.1 c hc), fun i hi => ⟨k.cellOf (h.u8.2 i hi).1, k.cellOf (h.u8.2 i hi).2⟩⟩, by obtain ⟨m, hm⟩ := h.ml; exact ⟨m, k.cellOf hm⟩⟩
theorem Kept.of_below0 {w w' : World} (h : Below w.heap.size w w') : Kept [] w w' := Kept.of_below h (Nat.le_refl _)
theorem valid_any (l : List UInt8) (w : World) (hl : l.length ≤ 9223372036854775807) (hT : Tabs w) :
    Calls Tryz.prog 130 #[S l] w fun e w' => e = .returned (.bool (WX.textB l)) ∧ Kept [] w w' :=
  (Any.utf8_ValidString Tryz.lays196 ⟨l.toArray⟩ w (by simpa [ByteArray.size] using hl) hT.u8).mono fun e w' ⟨h1, h2⟩ => ⟨by rw [h1, WX.validD_text], Kept.of_below0 h2⟩
theorem text_any (l : List UInt8) (w : World) (hl : l.length ≤ 9223372036854775807) (hT : Tabs w) :
    Calls Tryz.prog 95 #[S l] w fun e w' => e = .returned (.bool (WX.textB l)) ∧ Kept [] w w' := by
  go_enter Tryz.func95, Tryz.ntmps95
  go_wp2_with (fail)
  refine (valid_any l w hl hT).mono ?_
  rintro e w1 ⟨rfl, k1⟩
  go_wp2
  go_ret
  exact ⟨rfl, k1⟩
theorem drop_ne {l : List UInt8} {p : Nat} (h : p < l.length) : l.drop p ≠ [] := by intro e; have h2 := congrArg List.length e; rw [List.length_drop, List.length_nil] at h2; omega
end
section
open Go.RowKit
set_option linter.unusedVariables false
set_option linter.unusedSimpArgs false
theorem Kept.iterAt {K : List Nat} {a w : World} (h : Kept K a w) {k : Nat} (hk : a.heap.size ≤ k) (s : ByteArray) (p : Nat) : Kept K a (w.iterAt k s p) :=
  ⟨h.os, h.tape, h.output, by rw [Lib.iterAt_size]; exact h.size, fun i hi hn => by
    rw [Lib.iterAt_other _ _ _ _ _ (by omega)]; exact h.block i hi hn⟩
theorem nameB_no {l : List UInt8} (h : l = [] ∨ 24 < l.length ∨ l = [46] ∨ l = [46, 46] ∨ WX.textB l = false) : WX.nameB l = false := by
  cases hn : WX.nameB l with
  | false => rfl
  | true =>
    exfalso
    have ht := WX.nameB_text hn
    unfold WX.nameB at hn
    simp only [Bool.and_eq_true, bne_iff_ne, Bool.not_eq_true', decide_eq_true_eq] at hn
    rcases h with rfl | h | rfl | rfl | h
    · simp at hn
    · omega
    · simp at hn
    · simp at hn
    · rw [h] at ht; cases ht
theorem nameB_go {l : List UInt8} (h1 : l ≠ []) (h2 : l.length ≤ 24) (h3 : l ≠ [46]) (h4 : l ≠ [46, 46]) : WX.nameB l = (WX.units l).all WX.nameU := by
  have : l.isEmpty = false := by cases l; exact absurd rfl h1; rfl
  simp [WX.nameB, this, h2, h3, h4]
theorem iter_at (w : World) (o : Obj) (k : Nat) (h : k = w.heap.size) : (w.alloc o).heap[k]? = some o := by subst h; exact heap_new w o
set_option maxHeartbeats 1000000 in
theorem name_any (l : List UInt8) (w : World) (hl : l.length ≤ 4611686018427387904) (hT : Tabs w) :
    Calls Tryz.prog 53 #[S l] w fun e w' => e = .returned (.bool (WX.nameB l)) ∧ Kept [] w w' := by
  have hl' : (l.length : Int) ≤ 4611686018427387904 := by omega
  have HT := Lib.hid hT
  clear hT
  by_cases c1 : l = []
  · have hr := Lib.hid (nameB_no (.inl c1))
    have e1 : l.isEmpty = true := by rw [c1]; rfl
    clear c1
    go_enter Tryz.func53, Tryz.ntmps53
    go_wp2
    go_ret
    exact ⟨ret_B hr.out.symm, Kept.refl _ _⟩
  have e1 : l.isEmpty = false := by cases l; exact absurd rfl c1; rfl
  by_cases c2 : 24 < l.length
  · have hr := Lib.hid (nameB_no (.inr (.inl c2)))
    have c2' : (24 : Int) < l.length := by omega
    have C1 := Lib.hid c1
    clear c1
    go_enter Tryz.func53, Tryz.ntmps53
    go_wp2
    go_ret
    exact ⟨ret_B hr.out.symm, Kept.refl _ _⟩
  have c2' : ¬ (24 : Int) < l.length := by omega
  by_cases c3 : l = [46]
  · have hr := Lib.hid (nameB_no (.inr (.inr (.inl c3))))
    have e3 : (l == [46]) = true := by rw [c3]; rfl
    have C1 := Lib.hid c1
    clear c1 c3
    go_enter Tryz.func53, Tryz.ntmps53
    go_wp2
    go_ret
    exact ⟨ret_B hr.out.symm, Kept.refl _ _⟩
  have e3 : (l == [46]) = false := by simpa using c3
  by_cases c4 : l = [46, 46]
  · have hr := Lib.hid (nameB_no (.inr (.inr (.inr (.inl c4)))))
    have e4 : (l == [46, 46]) = true := by rw [c4]; rfl
    have C1 := Lib.hid c1
    clear c1 c3 c4
    go_enter Tryz.func53, Tryz.ntmps53
    go_wp2
    go_ret
    exact ⟨ret_B hr.out.symm, Kept.refl _ _⟩
  have e4 : (l == [46, 46]) = false := by simpa using c4
  have hgo := Lib.hid (nameB_go c1 (by omega) c3 c4)
  clear c1 c2 c3 c4
  cases ht : WX.textB l with
  | false =>
    have hr := Lib.hid (nameB_no (.inr (.inr (.inr (.inr ht)))))
    have H := Lib.hid ht
    clear ht
    go_enter Tryz.func53, Tryz.ntmps53
    go_wp2_with (fail)
    refine (text_any l w (by omega) HT.out).mono ?_
    rintro e w1 ⟨rfl, k1⟩
    rw [H.out]
    go_wp2
    go_ret
    exact ⟨ret_B hr.out.symm, k1⟩
  | true =>
    have H := Lib.hid ht
    clear ht
    go_enter Tryz.func53, Tryz.ntmps53
    go_wp2_with (fail)
    refine (text_any l w (by omega) HT.out).mono ?_
    rintro e w1 ⟨rfl, k1⟩
    rw [H.out]
    have K1 := Lib.hid k1
    have Z1 := k1.size
    clear k1
    go_wp2_with (fail)
    go_loopw [4] (fun _ wr => ∃ p : Nat, p ≤ l.length ∧ wr.heap[w1.heap.size]? = some (.stringIter ⟨l.toArray⟩ p) ∧ Kept [] w wr ∧ WX.textB (l.drop p) = true ∧ (WX.units (l.drop p)).all WX.nameU = (WX.units l).all WX.nameU) (fun _ wr => l.length - wr.iterPos w1.heap.size)
    case atStart =>
      refine ⟨0, by omega, iter_at _ _ _ rfl, K1.out.alloc _, H.out, rfl⟩
    case round =>
      obtain ⟨p, hp, hit, hk, ht, hu⟩ := hrel
      have HK := Lib.hid (And.intro hk (And.intro ht hu))
      have Zs : w1.heap.size < wr.heap.size := (Array.getElem?_eq_some_iff.1 hit).1
      clear hk ht hu
      by_cases hlt : p < l.length
      · have hne := drop_ne hlt
        have hps : p < (⟨l.toArray⟩ : ByteArray).size := by simpa [ByteArray.size] using hlt
        have hnx : ∀ ty, (Instr.next (.pointer (some ⟨w1.heap.size, 0, none⟩)) true ty).run Tryz.prog wr = _ := fun ty => Lib.run_next_any_at wr w1.heap.size ⟨l.toArray⟩ p ty hit hps
        rw [show Utf8.decode ⟨l.toArray⟩ p = WX.dec (l.drop p) from WX.decode_dec _ _] at hnx
        have hit2 := Lib.iterAt_heap wr w1.heap.size ⟨l.toArray⟩ p (p + (WX.dec (l.drop p)).2) hit
        have hok : WX.isOk (l.drop p) = true := by have := HK.out.2.1; rw [WX.textB_cons _ hne, Bool.and_eq_true] at this; exact this.1
        have hw := WX.dec_width _ hne
        rw [List.length_drop] at hw
        have hall := WX.units_all _ hne WX.nameU
        rw [List.drop_drop] at hall
        have htx := HK.out.2.1
        rw [WX.textB_cons _ hne, hok, Bool.true_and, List.drop_drop] at htx
        have hun : WX.nameU (WX.unit1 (l.drop p)) = (WX.plainN (WX.dec (l.drop p)).1 && (WX.dec (l.drop p)).1 != 47) := by unfold WX.unit1 WX.nameU; rw [hok]; rfl
        generalize hd : WX.dec (l.drop p) = d at *
        obtain ⟨r, m⟩ := d
        simp only at hw hnx hit2 hall htx hun
        have HA := Lib.hid (And.intro hit (And.intro hit2 (And.intro hok (And.intro hall (And.intro htx hun)))))
        have HW := Lib.hid hw
        have HD := Lib.hid hd
        clear hit hit2 hok hall htx hun hw hd hne
        cases hpl : WX.plainN r with
        | false =>
          have HP := Lib.hid hpl
          clear hpl
          go_wp2_with (fail)
          refine (plain_any r _).mono ?_
          rintro e w2 ⟨rfl, rfl⟩
          rw [HP.out]
          go_wp2
          go_ret
          refine ⟨ret_B ?_, HK.out.1.iterAt (by omega) _ _⟩
          rw [hgo.out, ← HK.out.2.2, HA.out.2.2.2.1, HA.out.2.2.2.2.2, HP.out]; rfl
        | true =>
          have HP := Lib.hid hpl
          clear hpl
          cases h47 : ((r : Int) == 47) with
          | true =>
            go_wp2_with (fail)
            refine (plain_any r _).mono ?_
            rintro e w2 ⟨rfl, rfl⟩
            rw [HP.out]
            go_wp2
            go_ret
            refine ⟨ret_B ?_, HK.out.1.iterAt (by omega) _ _⟩
            have : r = 47 := by simp at h47; omega
            rw [hgo.out, ← HK.out.2.2, HA.out.2.2.2.1, HA.out.2.2.2.2.2, HP.out, this]; rfl
          | false =>
            go_wp2_with (fail)
            refine (plain_any r _).mono ?_
            rintro e w2 ⟨rfl, rfl⟩
            rw [HP.out]
            go_wp2
            go_roundw
            case rel =>
              have hr47 : r ≠ 47 := by simp at h47; omega
              refine ⟨p + m, by have := HW.out; omega, HA.out.2.1, HK.out.1.iterAt (by omega) _ _, HA.out.2.2.2.2.1, ?_⟩
              rw [← HK.out.2.2, HA.out.2.2.2.1, HA.out.2.2.2.2.2, HP.out]
              simp [hr47]
            case measure =>
              have := HW.out
              simp only [World.iterPos, HA.out.2.1, HA.out.1]
              omega
      · have hps : ¬ p < (⟨l.toArray⟩ : ByteArray).size := by simpa [ByteArray.size] using hlt
        have hnx : ∀ ty, (Instr.next (.pointer (some ⟨w1.heap.size, 0, none⟩)) true ty).run Tryz.prog wr = _ := fun ty => Lib.run_next_end_at wr w1.heap.size ⟨l.toArray⟩ p ty hit hps
        obtain rfl : p = l.length := by omega
        clear hit
        go_wp2
        go_ret
        refine ⟨ret_B ?_, HK.out.1⟩
        rw [hgo.out, ← HK.out.2.2, List.drop_length]; rfl
end
section
open Go.RowKit
set_option linter.unusedVariables false
set_option linter.unusedSimpArgs false
end
end Go.Proofs.YtncdfaocemfgfaaGreatDoor
