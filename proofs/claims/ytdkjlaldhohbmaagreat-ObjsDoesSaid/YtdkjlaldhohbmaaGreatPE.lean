/- Walks and lemmas on the program of this seat, used by its statements; each theorem bears its own conditions. -/
import Derived.Test.YtdkjlaldhohbmaaGreatPC
import Derived.Test.YtdkjlaldhohbmaaGreatShelf
import Derived.Handy
import Derived.OwnWalk
import Derived.Deep.AppendLies
import Derived.IntWalk
import Derived.Deep.CutRange
import Derived.Deep.RegionHeld3
import Derived.Deep.RegionLaw
import Derived.Lib.MakeNoZero
import Derived.Laws.CopyOwn
namespace Go.Proofs.YtdkjlaldhohbmaaGreat
open Go.RowKit
set_option linter.unusedVariables false
set_option linter.unusedSimpArgs false
set_option maxHeartbeats 8000000
set_option maxRecDepth 100000
/-! ### bytes.Repeat of one byte -/
theorem u8_size : (Tryz.prog.info? 5).map (·.size) = some 1 := by kernel_rfl
abbrev FB (k : Nat) : List Value := Lib.byteCells (List.replicate k 255)
def FilAt (w : World) (g k S : Nat) : Prop := ∃ X : List Value, w.heap[g]? = some (.cells (FB k ++ X).toArray 5 (0, 0)) ∧ k + X.length = S
theorem fb_len (k : Nat) : (FB k).length = k := by simp [FB, Lib.byteCells]
theorem fb_at (k i : Nat) (h : i < k) : (FB k)[i]? = some (B 255) := by
  rw [FB, Lib.byteCells, List.getElem?_map, List.getElem?_replicate, if_pos h]; rfl
theorem fb_one (k : Nat) : ∀ v ∈ FB k, v.oneCell' = true := by
  intro v hv
  obtain ⟨i, hi, rfl⟩ := List.mem_iff_getElem.1 hv
  rw [fb_len] at hi
  have := fb_at k i hi
  rw [List.getElem?_eq_getElem (by rw [fb_len]; exact hi), Option.some.injEq] at this
  rw [this]; rfl
theorem fb_add (k m : Nat) : FB (k + m) = FB k ++ FB m := by
  simp [FB, Lib.byteCells, ← List.replicate_append_replicate]
theorem fb_src (r j : Nat) (v : Value) (h : (FB r)[j]? = some v) : j < r ∧ B 255 = v := by
  have hj : j < r := by
    have := (List.getElem?_eq_some_iff.1 h).1
    rw [fb_len] at this; exact this
  rw [fb_at r j hj] at h
  exact ⟨hj, by cases h; rfl⟩
theorem fil_cell {w : World} {g k S : Nat} (h : FilAt w g k S) (i : Nat) (hi : i < k) : w.cell? ⟨g, i, none⟩ = some (B 255) := by
  obtain ⟨X, hb, _⟩ := h
  rw [cell_at hb, List.getElem?_toArray, List.getElem?_append_left (by rw [fb_len]; exact hi)]
  exact fb_at k i hi
theorem fil_splice (k m : Nat) (X : List Value) (h : m ≤ X.length) : splice (FB k ++ X) k (FB m) = FB (k + m) ++ X.drop m := by
  unfold splice
  rw [List.take_left' (fb_len k), fb_len, List.drop_append, fb_len, List.drop_of_length_le (by rw [fb_len]; omega), List.nil_append, show k + m - k = m by omega, fb_add, List.append_assoc]
theorem fil_row {w : World} {g k S : Nat} (h : FilAt w g k S) : RowX w g (List.replicate k 255) := by
  obtain ⟨X, hb, _⟩ := h
  exact ⟨X.toArray, by rw [hb]; simp [FB]⟩
set_option maxHeartbeats 4000000 in
theorem repeat_any (w : World) (gs c N : Nat) (h1 : 1 ≤ N) (hN : N ≤ 131072) (hc : w.cell? ⟨gs, 0, none⟩ = some (B 255)) :
    Calls Tryz.prog 69 #[.slice (some ⟨gs, 0, none⟩) 1 c, I N] w fun e w' => ∃ g, e = .returned (.slice (some ⟨g, 0, none⟩) N N) ∧ w.heap.size ≤ g ∧ RowX w' g (List.replicate N 255) ∧ Kept [] w w' := by
  have HMul := Tryz.bits_Mul 1 N (by omega) (by omega) w
  rw [show 1 * N / 18446744073709551616 = 0 by omega, show 1 * N % 18446744073709551616 = N by omega] at HMul
  replace HMul : Hid (Calls Tryz.prog 95 #[.int .u64 1, .int .u64 N] w fun e w' => e = .returned (.tuple #[.int .u64 0, .int .u64 N]) ∧ w' = w) := Lib.hid HMul
  obtain ⟨cs, hrunM, hle, _⟩ := Lib.run_makeNoZero (P := Tryz.prog) w #[3] 83 5 Tryz.underlying83 N (by omega)
  have hcall : (callFunc 96 #[I N]).run Tryz.prog w = .ok (.value (.slice (some ⟨w.heap.size, 0, none⟩) N cs.size)) ((w.alloc (.cells cs 5)).drewN 2) := by
    rw [run_callFunc_extern Tryz.func96 (by kernel_rfl) (by kernel_rfl) (by kernel_rfl) (e := Extern.BytealgMakeNoZero.makeNoZero #[3] #[83]) (by kernel_rfl), hrunM]
    rfl
  clear hrunM
  have hgs := World.block_lt_of_cell? w _ hc
  have kN : Kept [] w ((w.alloc (.cells cs 5)).drewN 2) := ((Kept.refl [] w).alloc _).drewN 2
  have hb0 : ((w.alloc (.cells cs 5)).drewN 2).heap[w.heap.size]? = some (.cells cs.toList.toArray 5 (0, 0)) := by
    have := heap_new w (.cells cs 5)
    simpa using this
  have HB0 := Lib.hid (And.intro hb0 (And.intro kN hle))
  have hc1 := kN.cellOf hc
  have hNI : (1 : Int) ≤ N := by omega
  have hNI2 : (N : Int) ≤ 131072 := by omega
  have hleI : (N : Int) ≤ (cs.size : Int) := by omega
  clear kN hb0
  go_enter Tryz.func69, Tryz.ntmps69
  go_wp2_with (fail)
  refine HMul.out.mono ?_
  rintro e w1 ⟨rfl, rfl⟩
  have hcase : (∃ _ : (N : Int) ≤ 8192, N = min N 8192) ∨ (∃ _ : (8192 : Int) < N, 8192 = min N 8192) := by
    rcases Nat.le_total N 8192 with h | h
    · exact .inl ⟨by omega, by omega⟩
    · by_cases e : N = 8192
      · exact .inl ⟨by omega, by omega⟩
      · exact .inr ⟨by omega, by omega⟩
  rcases hcase with ⟨hbI, hm⟩ | ⟨hbI, hm⟩
  all_goals
    obtain ⟨m, hmm⟩ : ∃ m : Nat, min N 8192 = m := ⟨_, rfl⟩
    rw [hmm] at hm
    have HM := Lib.hid hm
    clear hm
    go_upto_region 17 with (fail)
    have HC1 := Lib.hid hc1
    iterate 7 go_step
    refine wpList_copy_splice rfl (.tmp 58) (.tmp 59) 83 83 rfl 5 Tryz.underlying83 u8_size (some ⟨w1.heap.size, 0, none⟩) (some ⟨gs, 0, none⟩) N N 1 c rfl rfl w1.heap.size 0 cs.toList 5 HB0.out.1 (FB 1) (by show 1 = min 1 N; omega) (fun _ => ⟨rfl, _, rfl, fun j v hv => by rcases j with _ | j; (· cases hv; exact HC1.out); (· cases hv)⟩) (by rw [fb_len, Array.length_toList]; have := HB0.out.2.2; omega) (fb_one 1) w1.heap.size w1 HB0.out.2.1.below (Nat.le_refl _) ?_
    intro w2 hg2 hb2
    have HX2 : Hid (FilAt w2 w1.heap.size 1 cs.size ∧ Kept [] w1 w2) := Lib.hid ⟨⟨cs.toList.drop 1, by have := hg2.out; rw [show splice cs.toList 0 (FB 1) = FB 1 ++ cs.toList.drop 1 from by unfold splice; rw [fb_len, List.take_zero, List.nil_append]] at this; exact this, by have := HB0.out.2.2; rw [List.length_drop, Array.length_toList]; omega⟩, Kept.of_below hb2 (Nat.le_refl _)⟩
    have HB : Hid (N ≤ cs.size) := Lib.hid HB0.out.2.2
    clear hg2 hb2 hc1 hc HC1 HMul hcall HB0
    go_wp2_with (fail)
    go_loopw [10, 11] (fun v10 v11 wr => ∃ k : Nat, 1 ≤ k ∧ k ≤ N ∧ v10 = I k ∧ FilAt wr w1.heap.size k cs.size ∧ Kept [] w1 wr) (fun v10 _ _ => N - (intOf v10).toNat)
    case atStart => exact ⟨1, Nat.le_refl _, h1, rfl, HX2.out⟩
    case round =>
      obtain ⟨k, hk1, hkN, rfl, hfil, kr⟩ := hrel
      by_cases hlt : k < N
      · have hltI : (k : Int) < N := by omega
        have hkI : (k : Int) ≤ N := by omega
        obtain ⟨q, hq⟩ : ∃ q, min k m = q := ⟨_, rfl⟩
        have hqI : (q : Int) ≤ N := by omega
        first
          | (have hmn : min (k : Int) (N : Int) = (q : Int) := by have := HM.out; omega)
          | (have hmn : min (k : Int) 8192 = (q : Int) := by have := HM.out; omega)
        obtain ⟨r, hr⟩ : ∃ r, min q (N - k) = r := ⟨_, rfl⟩
        have hqk : q ≤ k := by omega
        have hq1 : 1 ≤ q := by omega
        have hr1 : 1 ≤ r := by omega
        have hrk : k + r ≤ N := by omega
        have hrq : r ≤ q := by omega
        have hcl : ∀ j, j < k → wr.cell? ⟨w1.heap.size, j, none⟩ = some (B 255) := fun j hj => fil_cell hfil j hj
        obtain ⟨X, hb, hX⟩ := hfil
        have HF := Lib.hid (And.intro hb (And.intro hX (And.intro kr (And.intro hcl (And.intro hq (And.intro hr hrk))))))
        have hrI : ((k : Int) + r) ≤ 131072 := by omega
        have hwr : IntKind.i64.wrap ((k : Int) + (r : Int)) = ((k + r : Nat) : Int) := by rw [IntKind.wrap_i64]; omega
        have HR1 : Hid (1 ≤ r) := Lib.hid hr1
        clear hb hX kr hcl hq hr hr1 hrk hk1 hq1
        go_wp2_with (fail)
        go_region_law (refine step_copy_splice rfl (.tmp 70) (.tmp 73) 83 83 rfl 5 Tryz.underlying83 u8_size (some ⟨w1.heap.size, k, none⟩) (some ⟨w1.heap.size, 0, none⟩) (N - k) (N - k) q N (by have hne : ¬ N = k := (by omega); simp [Act.eval, Act.put, hne]) (by simp [Act.eval, Act.put]) w1.heap.size k (FB k ++ X) 5 HF.out.1 (FB r) (by rw [fb_len]; exact HF.out.2.2.2.2.2.1.symm) (fun _ => ⟨rfl, _, rfl, fun j v hv => (fb_src r j v hv).2 ▸ (by have := HF.out.2.2.2.1 j (by have := (fb_src r j v hv).1; omega); by_cases h0 : j = 0; (· subst h0; simpa [Addr.add] using this); (· simpa [Addr.add, h0] using this))⟩) (by rw [List.length_append, fb_len, fb_len]; have := HF.out.2.1; have := HB.out; have := HF.out.2.2.2.2.2.2; omega) (fb_one r) w1.heap.size w1 HF.out.2.2.1.drew.below (Nat.le_refl _) ?_; intro w4 hg4 hb4)
        all_goals
          go_wp2
          rw [fb_len, hwr]
          obtain ⟨hb, hX, kr, hcl, hq, hr, hrk⟩ := HF.out
          have hr1 := HR1.out
          refine ⟨⟨k + r, by omega, hrk, rfl, ⟨X.drop r, ?_, ?_⟩, Kept.of_below hb4 (Nat.le_refl _)⟩, by simp [intOf]; omega⟩
          · have h4 := hg4.out
            rw [fil_splice k r X (by have := HB.out; omega)] at h4
            exact h4
          · rw [List.length_drop]; have := HB.out; omega
      · have hkN2 : k = N := by omega
        subst hkN2
        have HF := Lib.hid (And.intro hfil kr)
        clear hfil kr
        go_wp2_with (fail)
        go_ret
        exact ⟨_, rfl, Nat.le_refl _, fil_row HF.out.1, HF.out.2⟩
end Go.Proofs.YtdkjlaldhohbmaaGreat
