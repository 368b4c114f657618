/- Walks and lemmas on the program of this seat, used by its statements; each theorem bears its own conditions. -/
import Derived.Test.YtgdncdhalnijcaaDoorHX
import Derived.Handy
import Derived.Deep.CutRange
import Derived.Lib.BufferWrite
import Derived.Lib.ItoaNum
namespace Go.Proofs.YtgdncdhalnijcaaDoor
open Go.RowKit
set_option linter.unusedVariables false
set_option linter.unusedSimpArgs false
/-! ### Texts that may be: visible, seen, text, ok -/
theorem allTake (p : UInt8 → Bool) (l : List UInt8) (k : Nat) (h : k < l.length) : (l.take (k + 1)).all p = ((l.take k).all p && p (byteAt l k)) := by
  rw [List.take_succ_eq_append_getElem h, List.all_append, byteAt_eq l k h]; simp
theorem all_hit {p : UInt8 → Bool} (l : List UInt8) (k : Nat) (h : k < l.length) (hp : p (byteAt l k) = false) : l.all p = false := by
  rw [byteAt_eq l k h] at hp
  rw [List.all_eq_false]; exact ⟨l[k], List.getElem_mem _, by simp [hp]⟩
theorem byteAt_lt (l : List UInt8) (k : Nat) : ((byteAt l k).toNat : Int) < 256 := by have := (byteAt l k).toNat_lt; omega
set_option maxHeartbeats 4000000
set_option maxRecDepth 100000
theorem take_byteAt (l : List UInt8) (k : Nat) (h : k < l.length) : l.take (k + 1) = l.take k ++ [byteAt l k] := by
  rw [List.take_succ_eq_append_getElem h, byteAt_eq l k h]
/-! ### lower, Small; Trim; End -/
structure CellsB (w : World) (b : Nat) (l : List UInt8) : Prop where
  cell : ∀ i, i < l.length → w.cell? ⟨b, i, none⟩ = some (B (byteAt l i))
  free : ∀ i, i < l.length → w.frozen? ⟨b, i, none⟩ = false
theorem byteAt_set_eq (l : List UInt8) (k : Nat) (c : UInt8) (h : k < l.length) : byteAt (l.set k c) k = c := by
  unfold byteAt; simp [List.getD_eq_getElem?_getD, h]
theorem byteAt_set_ne (l : List UInt8) (k i : Nat) (c : UInt8) (h : i ≠ k) : byteAt (l.set k c) i = byteAt l i := by
  unfold byteAt; rw [List.getD_eq_getElem?_getD, List.getD_eq_getElem?_getD, List.getElem?_set_ne (Ne.symm h)]
theorem CellsB.set {w : World} {b : Nat} {l : List UInt8} (h : CellsB w b l) (k : Nat) (c : UInt8) (hk : k < l.length) : CellsB (w.setCell ⟨b, k, none⟩ (B c)) b (l.set k c) := by
  constructor
  · intro i hi
    rw [List.length_set] at hi
    by_cases hik : i = k
    · subst hik
      rw [World.cell?_setCell_same' _ _ _ (by rw [h.cell i hi]; rfl), byteAt_set_eq _ _ _ hi]
    · rw [byteAt_set_ne _ _ _ _ hik, ← h.cell i hi]
      exact World.cell?_setCell_other w _ _ _ (fun e => hik (by injection e with _ e2 _; exact e2.symm))
  · intro i hi
    rw [List.length_set] at hi
    rw [World.frozen?_setCell]; exact h.free i hi
theorem CellsB.conv {w : World} {b : Nat} {l : List UInt8} (h : CellsB w b l) (c : Nat) : (convert 51 9 (.slice (some ⟨b, 0, none⟩) l.length c)).run Tryd.prog w = .ok (S l) w := by
  have hr := run_convert_bytes_arg (P := Tryd.prog) w 51 5 Tryd.underlying51 Tryd.underlying5 b 0 l.length c (l.map fun c => (c.toNat : Int)) (by simp) (fun i hi => by
    rw [Nat.zero_add, h.cell i hi, byteAt_eq l i hi]
    simp [List.getD, hi]) 9 Tryd.underlying9
  rw [hr]
  have : strOfNums (l.map fun c => (c.toNat : Int)) = ⟨l.toArray⟩ := by
    unfold strOfNums; rw [List.map_map]; congr 1
    have : l.map ((fun n : Int => UInt8.ofNat n.toNat) ∘ fun c : UInt8 => (c.toNat : Int)) = l := by
      conv => rhs; rw [← List.map_id l]
      apply List.map_congr_left; intro x _; simp
    rw [this]
  rw [this]
theorem text_cells (l : List UInt8) (w : World) : ∃ (c : Nat) (W : World), (convert 9 51 (S l)).run Tryd.prog w = .ok (.slice (some ⟨w.heap.size, 0, none⟩) l.length c) W ∧ Kept [] w W ∧ CellsB W w.heap.size l := by
  have hr := run_bytes_of_string w 9 51 5 ⟨l.toArray⟩ Tryd.underlying9 Tryd.underlying51 Tryd.underlying5
  have e1 : (⟨l.toArray⟩ : ByteArray).size = l.length := by simp [ByteArray.size]
  obtain ⟨c, hc⟩ : ∃ c, grownCap w (⟨l.toArray⟩ : ByteArray).size 0 5 = c := ⟨_, rfl⟩
  rw [hc, e1] at hr
  have hlen : l.length ≤ (bytesRow ⟨l.toArray⟩ c).size := by simp [bytesRow]
  have hh : (w.drew.alloc (.cells (bytesRow ⟨l.toArray⟩ c) 5 ((bytesRow ⟨l.toArray⟩ c).size, (bytesRow ⟨l.toArray⟩ c).size + 1))).heap[w.heap.size]? = some (.cells (bytesRow ⟨l.toArray⟩ c) 5 ((bytesRow ⟨l.toArray⟩ c).size, (bytesRow ⟨l.toArray⟩ c).size + 1)) := heap_new w.drew _
  refine ⟨c, _, hr, ((Kept.refl [] w).drew).alloc _, fun i hi => ?_, fun i hi => ?_⟩
  · have h2 := bytesRow_at ⟨l.toArray⟩ c i (by simpa using hi)
    simp only [World.cell?, hh, h2]
    rw [byteAt_eq l i hi]
    rfl
  · simp only [World.frozen?, hh]
    simp
    omega
theorem low_step (s : List UInt8) (k : Nat) (h : k < s.length) : (lowL (s.take k) ++ s.drop k).set k (lowC (byteAt s k)) = lowL (s.take (k + 1)) ++ s.drop (k + 1) := by
  have hl : (lowL (s.take k)).length = k := by simp [lowL]; omega
  rw [List.set_append_right _ _ (by omega), hl, Nat.sub_self, drop_byte s k h, take_byteAt s k h]
  simp [lowL]
theorem low_at (s : List UInt8) (k : Nat) (h : k < s.length) : byteAt (lowL (s.take k) ++ s.drop k) k = byteAt s k := by
  have hl : (lowL (s.take k)).length = k := by simp [lowL]; omega
  rw [drop_byte s k h]
  unfold byteAt
  rw [List.getD_eq_getElem?_getD, List.getElem?_append_right (by omega), hl, Nat.sub_self]
  rfl
theorem low_same (s : List UInt8) (k : Nat) (h : k < s.length) (hc : lowC (byteAt s k) = byteAt s k) : lowL (s.take k) ++ s.drop k = lowL (s.take (k + 1)) ++ s.drop (k + 1) := by
  rw [drop_byte s k h, take_byteAt s k h]
  simp [lowL, hc]
theorem low_len (s : List UInt8) (k : Nat) : (lowL (s.take k) ++ s.drop k).length = s.length := by simp [lowL]; omega
theorem lowC_up {c : UInt8} (h : 65 ≤ c.toNat ∧ c.toNat ≤ 90) : ((lowC c).toNat : Int) = (c.toNat : Int) + 32 := by
  unfold lowC
  rw [if_pos h, UInt8.toNat_add]
  have : (32 : UInt8).toNat = 32 := rfl
  rw [this]
  omega
theorem small_any (s : List UInt8) (w : World) (hs : s.length ≤ 9223372036854775807) :
    Calls Tryd.prog 20 #[S s] w fun e w' => e = .returned (S (lowL s)) ∧ Kept [] w w' := by
  have hs' : (s.length : Int) ≤ 9223372036854775807 := by omega
  obtain ⟨cp, X, hcb, kX, hX⟩ := text_cells s w
  have HX := Lib.hid (And.intro hX kX)
  clear hX kX
  go_enter Tryd.func20, Tryd.ntmps20
  go_wp2_with (fail)
  clear hcb
  go_loopw [4] (fun i wr => ∃ k : Nat, k ≤ s.length ∧ i = I k ∧ CellsB wr w.heap.size (lowL (s.take k) ++ s.drop k) ∧ Kept [] w wr) (fun i _ => s.length - (intOf i).toNat)
  case atStart => exact ⟨0, by omega, rfl, HX.out.1, HX.out.2⟩
  case round =>
    obtain ⟨k, hk, rfl, hcb, hkw⟩ := hrel
    have HC := Lib.hid hcb
    have HK := Lib.hid hkw
    by_cases hlt : k < s.length
    · have hlt' : (k : Int) < s.length := by omega
      have hcell := hcb.cell k (by rw [low_len]; exact hlt)
      have hfree := hcb.free k (by rw [low_len]; exact hlt)
      rw [low_at s k hlt] at hcell
      have HS := Lib.hid (low_step s k hlt)
      have HE := Lib.hid (low_same s k hlt)
      have HW := Lib.hid (hcb.set k (lowC (byteAt s k)) (by rw [low_len]; exact hlt))
      obtain ⟨c, hc⟩ : ∃ c, byteAt s k = c := ⟨_, rfl⟩
      rw [hc] at hcell HS HE HW
      have hcl := byteAt_lt s k
      rw [hc] at hcl
      clear hcb hkw hc
      by_cases h1 : 65 ≤ c.toNat
      · by_cases h2 : c.toNat ≤ 90
        · have h1' : (65 : Int) ≤ c.toNat := by omega
          have h2' : (c.toNat : Int) ≤ 90 := by omega
          have HU := Lib.hid (lowC_up ⟨h1, h2⟩)
          have HKS : Hid (Kept [] w (wr.setCell ⟨w.heap.size, k, none⟩ (B (lowC c)))) := Lib.hid (HK.out.setCell (.inr (Nat.le_refl _)) _)
          go_wp2_with (fail)
          go_roundw
          case rel => exact ⟨k + 1, by omega, by go_num, by rw [← HS.out, ← HU.out]; exact HW.out, by rw [← HU.out]; exact HKS.out⟩
          case measure => simp [intOf]; omega
        · have h1' : (65 : Int) ≤ c.toNat := by omega
          have h2' : ¬ (c.toNat : Int) ≤ 90 := by omega
          have HL : Hid (lowC c = c) := Lib.hid (by unfold lowC; rw [if_neg (by omega)])
          go_wp2_with (fail)
          go_roundw
          case rel => exact ⟨k + 1, by omega, by go_num, by rw [← HE.out HL.out]; exact HC.out, HK.out⟩
          case measure => simp [intOf]; omega
      · have h1' : ¬ (65 : Int) ≤ c.toNat := by omega
        have HL : Hid (lowC c = c) := Lib.hid (by unfold lowC; rw [if_neg (by omega)])
        go_wp2_with (fail)
        go_roundw
        case rel => exact ⟨k + 1, by omega, by go_num, by rw [← HE.out HL.out]; exact HC.out, HK.out⟩
        case measure => simp [intOf]; omega
    · have hlt' : ¬ (k : Int) < s.length := by omega
      have he : lowL (s.take k) ++ s.drop k = lowL s := by rw [List.take_of_length_le (by omega), List.drop_of_length_le (by omega), List.append_nil]
      rw [he] at hcb
      have hcv := hcb.conv cp
      have hll : (lowL s).length = s.length := by simp [lowL]
      rw [hll] at hcv
      clear hcb hkw he
      go_wp2_with (fail)
      go_ret
      exact ⟨rfl, HK.out⟩
end Go.Proofs.YtgdncdhalnijcaaDoor
