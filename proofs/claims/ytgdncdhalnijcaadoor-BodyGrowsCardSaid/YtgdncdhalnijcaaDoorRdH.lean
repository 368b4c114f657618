/- Walks and lemmas on the program of this seat, used by its statements; each theorem bears its own conditions. -/
import Derived.Test.YtgdncdhalnijcaaDoorRdG
namespace Go.Proofs.YtgdncdhalnijcaaDoor
open Go.RowKit
set_option linter.unusedVariables false
set_option linter.unusedSimpArgs false
namespace BD
/-! ### Lists of strings in memory; a head -/
def StrsAt (w : World) (v : Value) (ss : List (List UInt8)) : Prop :=
  ∃ (p : Option Addr) (cap : Nat), v = .slice p ss.length cap ∧ ss.length ≤ 9223372036854775807 ∧ (ss ≠ [] → ∃ b off, p = some ⟨b, off, none⟩ ∧ ∀ (i : Nat) (h : i < ss.length), w.cell? ⟨b, off + i, none⟩ = some (S ss[i]))
theorem StrsAt.kept {w w' : World} {v : Value} {ss : List (List UInt8)} (h : StrsAt w v ss) (k : Kept [] w w') : StrsAt w' v ss := by
  obtain ⟨p, cap, hv, hl, hc⟩ := h
  refine ⟨p, cap, hv, hl, fun hne => ?_⟩
  obtain ⟨b, off, hp, hcell⟩ := hc hne
  exact ⟨b, off, hp, fun i hi => by rw [k.cell (World.block_lt_of_cell? w _ (hcell i hi)) (by simp)]; exact hcell i hi⟩
theorem S_inj {a b : List UInt8} (h : S a = S b) : a = b := by
  have h1 : (⟨a.toArray⟩ : ByteArray) = ⟨b.toArray⟩ := by injection h
  have h2 : a.toArray = b.toArray := by injection h1
  exact congrArg Array.toList h2

/-- 'head.Get' -/
def getF (names values : List (List UInt8)) (name : List UInt8) : List UInt8 × Nat :=
  ((match names.findIdx? (· == name) with | some i => values.getD i [] | none => []), names.count name)
theorem findIdx?_snoc {p : List UInt8 → Bool} (l : List (List UInt8)) (x : List UInt8) : (l ++ [x]).findIdx? p = match l.findIdx? p with | some i => some i | none => if p x then some l.length else none := by
  rw [List.findIdx?_append]
  cases h : l.findIdx? p with
  | some i => simp
  | none => simp
theorem getF_no (l values : List (List UInt8)) (x name : List UInt8) (h : x ≠ name) : getF (l ++ [x]) values name = getF l values name := by
  unfold getF
  rw [findIdx?_snoc, List.count_append]
  have h1 : (x == name) = false := by simpa using h
  cases l.findIdx? (· == name) <;> simp [h1, h]
theorem getF_again (l values : List (List UInt8)) (name : List UInt8) (h : 0 < (getF l values name).2) : getF (l ++ [name]) values name = ((getF l values name).1, (getF l values name).2 + 1) := by
  unfold getF at h ⊢
  simp only at h
  rw [findIdx?_snoc, List.count_append]
  have hm : name ∈ l := List.count_pos_iff.1 h
  cases hf : l.findIdx? (· == name) with
  | some i => simp
  | none => simp [List.findIdx?_eq_none_iff] at hf; exact absurd rfl (hf name hm)
theorem getF_first (l values : List (List UInt8)) (name : List UInt8) (h : (getF l values name).2 = 0) : getF (l ++ [name]) values name = (values.getD l.length [], 1) ∧ (getF l values name).1 = [] := by
  unfold getF at h ⊢
  simp only at h
  have hm : name ∉ l := List.count_eq_zero.1 h
  have hf : l.findIdx? (· == name) = none := by rw [List.findIdx?_eq_none_iff]; intro x hx; simp; rintro rfl; exact hm hx
  rw [findIdx?_snoc, List.count_append]
  simp [hf, h]
theorem getF_le (l values : List (List UInt8)) (name : List UInt8) : (getF l values name).2 ≤ l.length := List.count_le_length

def GetRel (names values : List (List UInt8)) (name : List UInt8) (w : World) (v n i : Value) (wr : World) : Prop :=
  ∃ k : Nat, k ≤ names.length ∧ i = I k ∧ v = S (getF (names.take k) values name).1 ∧ n = I (getF (names.take k) values name).2 ∧ Kept [] w wr
set_option maxRecDepth 100000 in
set_option maxHeartbeats 1000000 in
theorem get_any (st : Int) (nv vv : Value) (names values : List (List UInt8)) (name : List UInt8) (w : World) (hn : StrsAt w nv names) (hv : StrsAt w vv values) :
    Calls Tryd.prog 16 #[.agg #[I st, nv, vv], S name] w fun e w' => e = .returned (.tuple #[S (getF names values name).1, I (getF names values name).2]) ∧ Kept [] w w' := by
  have HN := hn
  have HV := hv
  obtain ⟨pn, cn, rfl, hnl, hnc⟩ := hn
  obtain ⟨pv, cv, rfl, hvl, hvc⟩ := hv
  have hnl' : (names.length : Int) ≤ 9223372036854775807 := by omega
  have hvl' : (values.length : Int) ≤ 9223372036854775807 := by omega
  have Hn := Lib.hid hnc
  have Hv := Lib.hid hvc
  clear hnc hvc
  go_enter Tryd.func16, Tryd.ntmps16
  go_wp2_with (fail)
  go_loop [6, 7, 13] (fun v n i => ∃ k : Nat, k ≤ names.length ∧ i = I k ∧ v = S (getF (names.take k) values name).1 ∧ n = I (getF (names.take k) values name).2) (fun _ _ i => names.length - (intOf i).toNat)
  case atStart => exact ⟨0, by omega, rfl, rfl, rfl⟩
  case round =>
    obtain ⟨k, hk, rfl, rfl, rfl⟩ := hrel
    have hgl := getF_le (names.take k) values name
    have hgl' : (getF (names.take k) values name).2 ≤ k := by rw [List.length_take] at hgl; omega
    clear hgl
    by_cases hlt : k < names.length
    · obtain ⟨bn, on, rfl, hcn⟩ := Hn.out (by intro h; rw [h] at hlt; simp at hlt)
      have hc := hcn k hlt
      have hbn : bn < w.heap.size := World.block_lt_of_cell? w _ hc
      have hts : names.take (k + 1) = names.take k ++ [names[k]] := by rw [List.take_succ_eq_append_getElem hlt]
      generalize hx : names[k] = x at *
      obtain ⟨v, m, hvm⟩ : ∃ v m, getF (names.take k) values name = (v, m) := ⟨_, _, rfl⟩
      rw [hvm] at hgl' ⊢
      simp only at hgl' ⊢
      have hlk : (names.take k).length = k := by simp; omega
      have HTS := Lib.hid hts
      have HX := Lib.hid hx
      have HVM := Lib.hid hvm
      have HLK := Lib.hid hlk
      clear hts hx hcn hvm hlk
      by_cases hxe : x = name
      · by_cases hm : m = 0
        · by_cases hkv : k < values.length
          · obtain ⟨bv, ov, rfl, hcv⟩ := Hv.out (by intro h; rw [h] at hkv; simp at hkv)
            have hd := hcv k hkv
            have hbv : bv < w.heap.size := World.block_lt_of_cell? w _ hd
            have HD : Hid (getF (names.take (k + 1)) values name = (values[k], 1)) := by
              have h1 := getF_first (names.take k) values name (by rw [HVM.out]; exact hm)
              unfold Hid
              rw [HTS.out, hxe, h1.1, HLK.out]
              simp [hkv]
            generalize hy : values[k] = y at *
            clear hcv hy
            subst hxe hm
            go_wp2_with (fail)
            go_round
            case rel => exact ⟨k + 1, by omega, by go_num, by rw [HD.out], by rw [HD.out]; rfl⟩
            case measure => simp [intOf]; omega
          · have HD : Hid (getF (names.take (k + 1)) values name = (v, 1)) := by
              have h1 := getF_first (names.take k) values name (by rw [HVM.out]; exact hm)
              have h2 := h1.2
              rw [HVM.out] at h2
              unfold Hid
              rw [HTS.out, hxe, h1.1, HLK.out]
              simp at h2
              rw [h2, List.getD_eq_getElem?_getD, List.getElem?_eq_none (by omega)]
              rfl
            subst hxe hm
            go_wp2_with (fail)
            go_round
            case rel => exact ⟨k + 1, by omega, by go_num, by rw [HD.out], by rw [HD.out]; rfl⟩
            case measure => simp [intOf]; omega
        · have HD : Hid (getF (names.take (k + 1)) values name = (v, m + 1)) := by
            have h1 := getF_again (names.take k) values name (by rw [HVM.out]; simp only; omega)
            unfold Hid
            rw [HTS.out, hxe, h1, HVM.out]
          have hm0 : ((m : Int) == 0) = false := by simp; omega
          subst hxe
          go_wp2_with (fail)
          go_round
          case rel => exact ⟨k + 1, by omega, by go_num, by rw [HD.out], by rw [HD.out]; go_num⟩
          case measure => simp [intOf]; omega
      · have HD : Hid (getF (names.take (k + 1)) values name = (v, m)) := by
          unfold Hid
          rw [HTS.out, getF_no _ _ _ _ hxe, HVM.out]
        have hxb : (x == name) = false := by simpa using hxe
        clear hxe
        go_wp2_with (fail)
        go_round
        case rel => exact ⟨k + 1, by omega, by go_num, by rw [HD.out], by rw [HD.out]⟩
        case measure => simp [intOf]; omega
    · go_wp2_with (fail)
      go_ret2
      have : names.take k = names := List.take_of_length_le (by omega)
      rw [this]
      exact ⟨rfl, (Kept.refl _ _).alloc _⟩
end BD
end Go.Proofs.YtgdncdhalnijcaaDoor
