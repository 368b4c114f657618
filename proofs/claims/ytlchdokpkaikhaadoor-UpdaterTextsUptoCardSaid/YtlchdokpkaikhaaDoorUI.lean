/- Walks and lemmas on the program of this seat, used by its statements; each theorem bears its own conditions. -/
import Derived.Test.YtlchdokpkaikhaaDoorUH
import Derived.Handy
import Derived.IntWalk
import Derived.Deep.RegionHeld3
import Derived.OwnWalk
import Derived.Deep.AppendLies
namespace Go.Proofs.YtlchdokpkaikhaaDoor
open Go.RowKit
set_option linter.unusedVariables false
set_option linter.unusedSimpArgs false
abbrev SQ (B : Nat) (s : St) (W : World) (w' : World) : Prop :=
  w'.cell? ⟨B, 0, none⟩ = some (I s.ph) ∧ w'.cell? ⟨B, 1, none⟩ = some (I s.id) ∧ w'.cell? ⟨B, 2, none⟩ = some (I s.sl) ∧ w'.cell? ⟨B, 3, none⟩ = some (I s.sz) ∧ w'.cell? ⟨B, 4, none⟩ = some (I s.sq) ∧ w'.cell? ⟨B, 5, none⟩ = some (.bool s.ok) ∧ w'.cell? ⟨B, 6, none⟩ = some (I s.la) ∧ (B < w'.heap.size ∧ Kept [] W w')
theorem SQ.step {B : Nat} {s : St} {W w1 w2 : World} (h : SQ B s W w1) (k : Kept [] w1 w2) : SQ B s W w2 := by
  obtain ⟨h0, h1, h2, h3, h4, h5, h6, hB, hk⟩ := h
  have hc : ∀ i, w2.cell? ⟨B, i, none⟩ = w1.cell? ⟨B, i, none⟩ := fun i => k.cell (p := ⟨B, i, none⟩) hB (by simp)
  exact ⟨by rw [hc]; exact h0, by rw [hc]; exact h1, by rw [hc]; exact h2, by rw [hc]; exact h3, by rw [hc]; exact h4, by rw [hc]; exact h5, by rw [hc]; exact h6, Nat.lt_of_lt_of_le hB k.size, hk.trans' k⟩
theorem SQ.drew {B : Nat} {s : St} {W w1 : World} (h : SQ B s W w1) : SQ B s W w1.drew := h.step (Kept.refl _ _).drew
theorem SQ.alloc {B : Nat} {s : St} {W w1 : World} (h : SQ B s W w1) (o : Obj) : SQ B s W (w1.alloc o) := h.step ((Kept.refl _ _).alloc o)
theorem one_at (b : Bool) (n : Int) (w : World) (h : (if b = true then 1 else 0) = n) : Calls Tryd.prog 20 #[.bool b] w fun e w' => e = .returned (I n) ∧ w = w' := h ▸ one_any b w
theorem repeat_at' (n : Int) (c : Nat) (o : List UInt8) (w : World) (h : Lib.repeatL [48] c = o) (hn : n = c) (hc : c ≤ 1000) :
    Calls Tryd.prog 22 #[.string ⟨#[48]⟩, I n] w fun e w' => e = .returned (S o) ∧ Kept [] w w' := by subst hn; exact repeat_at c o w h hc
theorem rows_len (s : St) : (rowsL s).length = 7 := rfl
theorem may_at' (s : St) (b : Bool) (w : World) (h : mayB s = b) :
    Calls Tryd.prog 12 #[VS s] w fun e w' => e = .returned (.bool b) ∧ w' = w.alloc (boxS s) := h ▸ may_any s w
set_option maxHeartbeats 4000000 in
set_option maxRecDepth 100000 in
theorem print_no (s : St) (w : World) (h : ¬ MayP s) :
    Calls Tryd.prog 14 #[VS s] w fun e w' => e = .returned (.tuple #[S [], I 250]) ∧ Kept [] w w' := by
  have HM := Lib.hid (mayB_f h)
  clear h
  go_enter Tryd.func14, Tryd.ntmps14
  go_wp2_with (fail)
  refine (may_at' s false _ HM.out).mono ?_
  rintro r w1 ⟨rfl, rfl⟩
  go_wp2
  go_ret2
  exact ⟨rfl, ((Kept.refl _ _).alloc _).alloc _⟩
set_option maxHeartbeats 4000000 in
set_option maxRecDepth 100000 in
theorem print_yes (s : St) (w : World) (h : MayP s) (hT : Tabs w) :
    Calls Tryd.prog 14 #[VS s] w fun e w' => e = .returned (.tuple #[S (printL s), I 0]) ∧ Kept [] w w' := by
  have HM := Lib.hid (mayB_t h)
  have HP := Lib.hid (And.intro h hT)
  clear h hT
  obtain ⟨i0, hi, hz0, hz1, hz2⟩ := info_parts str_info
  go_enter Tryd.func14, Tryd.ntmps14
  go_wp2_with (fail)
  refine (may_at' s true _ HM.out).mono ?_
  rintro r w1 ⟨rfl, rfl⟩
  go_wp2_with (fail)
  have hsp : SQ w.heap.size s w ((w.alloc (boxS s)).alloc (boxS s)) := by
    have hc := (Kept.refl [] (w.alloc (boxS s))).alloc (boxS s)
    have hat : ((w.alloc (boxS s)).alloc (boxS s)).heap[w.heap.size]? = some (boxS s) := hc.at (heap_new w _) (by simp)
    exact ⟨by rw [cell_at hat]; rfl, by rw [cell_at hat]; rfl, by rw [cell_at hat]; rfl, by rw [cell_at hat]; rfl, by rw [cell_at hat]; rfl, by rw [cell_at hat]; rfl, by rw [cell_at hat]; rfl, by simp; omega, ((Kept.refl [] w).alloc _).trans' hc⟩
  generalize (w.alloc (boxS s)).alloc (boxS s) = W1 at hsp ⊢
  obtain ⟨n5, h5⟩ : ∃ n : Int, (if s.ok = true then 1 else 0) = n := ⟨_, rfl⟩
  have C5 := Lib.hid (fun W => one_at s.ok n5 W h5)
  have H5 := Lib.hid h5
  clear h5
  go_region_held3 (fun w' => SQ w.heap.size s w w')
    (first | assumption | exact SQ.drew hsp | exact SQ.alloc (by assumption) _ | exact SQ.drew (by assumption))
    ((go_at_call 20; (with_reducible refine (C5.out _).mono ?_); rintro e w2 ⟨rfl, rfl⟩))
  have hB1 : W1.heap.size < ((W1.alloc (.cells #[I s.ph, I s.id, I s.sl, I s.sz, I s.sq, I n5, I s.la] 3)).drew).heap.size := by simp
  have hnb : ((W1.alloc (.cells #[I s.ph, I s.id, I s.sl, I s.sz, I s.sq, I n5, I s.la] 3)).drew).heap[W1.heap.size]? = some (.cells #[I s.ph, I s.id, I s.sl, I s.sz, I s.sq, I n5, I s.la] 3 (0, 0)) := heap_new W1 _
  have HF := Lib.hid ‹SQ w.heap.size s w ((W1.alloc (.cells #[I s.ph, I s.id, I s.sl, I s.sz, I s.sq, I n5, I s.la] 3)).drew)›
  rename_i hheld
  clear hheld
  go_wp2_with (fail)
  generalize ((W1.alloc (.cells #[I s.ph, I s.id, I s.sl, I s.sz, I s.sq, I n5, I s.la] 3)).drew) = WL at HF hB1 hnb ⊢
  generalize W1.heap.size = BI at hB1 hnb ⊢
  have HN := Lib.hid (And.intro hB1 hnb)
  clear hnb hsp
  have hown0 : WL.ownsRow WL.heap.size 9 1 (.slice none 0 0) 0 [] := World.ownsRow_nil _ _ _ _
  clear C5 HM hB1
  go_loopw [4, 28] (fun v i wr => ∃ k : Nat, k ≤ 7 ∧ i = I k ∧ wr.ownsRow WL.heap.size 9 1 v ((rowsL s).take k).length (((rowsL s).take k).map S) ∧ Kept [] WL wr) (fun _ i _ => 7 - (intOf i).toNat)
  case atStart => exact ⟨0, by omega, rfl, hown0, Kept.refl _ _⟩
  case round =>
    obtain ⟨k, hk, rfl, hown, hkw⟩ := hrel
    have HK := Lib.hid (And.intro hown hkw)
    clear hown hkw hown0
    by_cases hlt : k < 7
    · obtain ⟨m, wd, e1, e2, e3, e4, e5⟩ := col_at HP.out.1 k hlt
      obtain ⟨i1, i2⟩ := itoa_dig wd m e3
      obtain ⟨o, ho⟩ : ∃ o, Lib.itoa (m : Int) = o := ⟨_, rfl⟩
      rw [ho] at i1 i2
      have hcell : wr.cell? ⟨BI, k, none⟩ = some (I m) := by
        rw [cell_at (HK.out.2.at HN.out.2 (by simp))]
        have hn : n5 = (if s.ok = true then 1 else 0) := H5.out.symm
        rw [← e1]
        match k, hlt with
        | 0, _ => rfl
        | 1, _ => rfl
        | 2, _ => rfl
        | 3, _ => rfl
        | 4, _ => rfl
        | 5, _ => rw [hn]; rfl
        | 6, _ => rfl
      have hm : (m : Int) ≤ 1000000000000000 := by
        have : (10 : Nat) ^ (wd + 1) ≤ 10 ^ 15 := Nat.pow_le_pow_right (by decide) (by omega)
        have : (10 : Nat) ^ 15 = 1000000000000000 := by decide
        omega
      have hlt' : (k : Int) < 7 := by omega
      have HE := Lib.hid (And.intro e1 (And.intro e2 (And.intro e3 (And.intro e4 (And.intro i1 ho)))))
      clear e1 e2 e3 e4 i1 ho
      have HT := Lib.hid (HP.out.2.kept (HF.out.2.2.2.2.2.2.2.2.trans' HK.out.2))
      go_wp2_with (fail)
      refine (itoa_at _ o wr HE.out.2.2.2.2.2 (by omega) (by omega) HT.out).mono ?_
      rintro e w1 ⟨rfl, k1⟩
      have H1 := Lib.hid (And.intro k1 (HT.out.kept k1))
      clear k1
      have i2' : (o.length : Int) ≤ wd + 1 := by omega
      go_wp2_with (fail)
      refine (widths_any w1).mono ?_
      rintro e w2 ⟨rfl, rfl⟩
      have hc2 : (w1.alloc (.cells #[I 1, I 10, I 1, I 8, I 15, I 1, I 10] 3)).cell? ⟨w1.heap.size, k, none⟩ = some (I ((wd : Int) + 1)) := by
        rw [cell_at (heap_new w1 _)]
        have h2 := HE.out.2.1
        match k, hlt with
        | 0, _ => obtain rfl : wd = 0 := by simp [widthsL] at h2; omega
                  rfl
        | 1, _ => obtain rfl : wd = 9 := by simp [widthsL] at h2; omega
                  rfl
        | 2, _ => obtain rfl : wd = 0 := by simp [widthsL] at h2; omega
                  rfl
        | 3, _ => obtain rfl : wd = 7 := by simp [widthsL] at h2; omega
                  rfl
        | 4, _ => obtain rfl : wd = 14 := by simp [widthsL] at h2; omega
                  rfl
        | 5, _ => obtain rfl : wd = 0 := by simp [widthsL] at h2; omega
                  rfl
        | 6, _ => obtain rfl : wd = 9 := by simp [widthsL] at h2; omega
                  rfl
      have k2 := (H1.out.1.alloc (.cells #[I 1, I 10, I 1, I 8, I 15, I 1, I 10] 3))
      have H2 := Lib.hid k2
      clear k2
      obtain ⟨o3, ho3⟩ : ∃ o3, Lib.repeatL [48] (wd + 1 - o.length) = o3 := ⟨_, rfl⟩
      have HR := Lib.hid ho3
      have hx : o3 ++ o = (rowsL s).getD k [] := by rw [HE.out.2.2.2.1, ← HE.out.2.2.2.2.1, ho3]
      clear ho3
      have HX := Lib.hid hx
      clear hx
      go_wp2_with (fail)
      refine (repeat_at' _ (wd + 1 - o.length) o3 _ HR.out (by omega) (by omega)).mono ?_
      rintro e w3 ⟨rfl, k3⟩
      have k4 := H2.out.trans' k3
      have HO := Lib.hid (And.intro (own_kept HK.out.1 k4) (And.intro (HK.out.2.trans' k4) (own_kept HK.out.1 k4).1))
      clear k3 k4 hc2
      have hlen : ((rowsL s).take k).length = k := by rw [List.length_take, rows_len]; omega
      have HLN := Lib.hid hlen
      clear hlen
      have hsz : WL.heap.size ≤ w3.heap.size := HO.out.2.1.size
      have hol : (o3.length : Int) ≤ 16 := by
        have := HR.out; subst this
        rw [Lib.repeatL_length]; simp; omega
      go_wp2_with (first
        | (at_builtin
           go_must (refine wpList_append_own _ rfl (.tmp 35) (.tmp 46) _ rfl WL.heap.size 9 i0 (.string ⟨#[]⟩) 1 16 Tryd.underlying41 hi hz0 hz1 hz2 rfl (by decide) u4 _ _ rfl (HO.out.1.alloc _) ⟨w3.heap.size, 0, none⟩ 1 1 [S (o3 ++ o)] rfl rfl (World.news_of_block (cs := #[S (o3 ++ o)]) (heap_new w3 _)) (by intro u hu; simp at hu; subst hu; rfl) (by have := HLN.out; unfold maxLen; omega) (by have := HLN.out; omega) (by simp; omega) ?_)
           intro v2 wb own2 gr2 _))
      have KB : Kept [] WL wb := (HO.out.2.1.alloc _).grown gr2 (fun q hq => (World.ownsRow.lt (HO.out.1) q hq).1)
      have HB := Lib.hid (And.intro own2 KB)
      clear own2 gr2 KB
      go_wp2
      go_roundw
      case rel =>
        refine ⟨k + 1, by omega, by go_num, ?_, HB.out.2⟩
        have := HB.out.1
        rw [take_getD _ _ [] (by rw [rows_len]; exact hlt), List.length_append, List.map_append, ← HX.out]
        exact this
      case measure => simp [intOf]; omega
    · obtain rfl : k = 7 := by omega
      have ht : (rowsL s).take 7 = rowsL s := List.take_of_length_le (by rw [rows_len]; omega)
      have hO := HK.out.1
      rw [ht] at hO
      have hst := own_strs hO (by rw [rows_len]; omega)
      have hjl : ([32].intercalate (rowsL s)).length ≤ 100 := by simp [rowsL, List.intercalate, List.intersperse, dig_len]
      have hjm := join_many [32] u4 (rowsL s) wr hst (by omega)
      have hrj := rows_join s
      change [115, 116, 97, 116, 101, 32] ++ [32].intercalate (rowsL s) ++ [10] = printL s at hrj
      generalize [32].intercalate (rowsL s) = x at hjl hjm hrj
      have HS := Lib.hid (And.intro hjm hrj)
      have hjl' : (x.length : Int) ≤ 100 := by omega
      clear hst hjl hO ht hjm hrj
      go_wp2_with (fail)
      refine HS.out.1.mono ?_
      rintro e w1 ⟨rfl, k1⟩
      have H1 := Lib.hid k1
      clear k1
      go_wp2
      go_ret2
      refine ⟨?_, (HF.out.2.2.2.2.2.2.2.2.trans' HK.out.2).trans' H1.out⟩
      exact congrArg (fun l => Ending.returned (.tuple #[S l, I 0])) HS.out.2
theorem print_any (s : St) (w : World) (hT : Tabs w) :
    Calls Tryd.prog 14 #[VS s] w fun e w' => e = .returned (.tuple #[S (printF s).1, I (printF s).2]) ∧ Kept [] w w' := by
  unfold printF
  by_cases h : MayP s
  · rw [if_pos h]
    exact print_yes s w h hT
  · rw [if_neg h]
    exact print_no s w h
end Go.Proofs.YtlchdokpkaikhaaDoor
