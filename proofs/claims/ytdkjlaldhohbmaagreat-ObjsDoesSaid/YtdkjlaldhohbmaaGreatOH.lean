/- Walks and lemmas on the program of this seat, used by its statements; each theorem bears its own conditions. -/
import Derived.Test.YtdkjlaldhohbmaaGreatOG
import Derived.Handy
import Derived.OwnWalk
import Derived.Deep.AppendLies
import Derived.IntWalk
import Derived.Deep.CutRange
import Derived.Deep.RegionHeld3
import Derived.Deep.RegionLaw
namespace Go.Proofs.YtdkjlaldhohbmaaGreat
open Go.RowKit
set_option linter.unusedVariables false
set_option linter.unusedSimpArgs false
set_option maxHeartbeats 8000000
set_option maxRecDepth 100000
/-! ### Format -/
def LfPost (pb fb bb cb fs n : Nat) (w : World) (f : Fl) (e : Ending) (w' : World) : Prop :=
  ∃ lb v, w.heap.size ≤ lb ∧ e = .returned (.tuple #[Ptr lb, I 0]) ∧ LgAt w' lb pb fb bb cb fs n v [(0, 1)] (madeF f fs 0 1) false ∧ (∀ q, v.ownBlock = some q → w.heap.size ≤ q) ∧ Kept [fb, bb, cb] w w'
set_option maxHeartbeats 4000000 in
theorem lformat_any (w : World) (pb fb bb cb fs n : Nat) (f : Fl) (h : PtAt w pb fb bb cb fs n f) (hd : f.dead = false) (ha : f.armed = 0) (h4 : 4 ≤ n) (hc : ∀ k, k < n → blockOf f.bs (fs + k) = fullB) :
    Calls Tryz.prog 70 #[Ptr pb] w (LfPost pb fb bb cb fs n w f) := by
  obtain ⟨lb, hlb⟩ : ∃ lb, w.heap.size = lb := ⟨_, rfl⟩
  obtain ⟨W, hW⟩ : ∃ W, w.alloc (.cells #[Ptr pb, .slice none 0 0, .bool false] 116) = W := ⟨_, rfl⟩
  have hk0 : Kept [] w W := by rw [← hW]; exact (Kept.refl _ _).alloc _
  have hl0 : LgAt W lb pb fb bb cb fs n (.slice none 0 0) [] f false := by
    have hb : W.heap[lb]? = some (.cells #[Ptr pb, .slice none 0 0, .bool false] 116 (0, 0)) := by rw [← hW, ← hlb]; exact heap_new w _
    have := h.fl.lt
    have := h.fl.lt2
    have := h.fl.lt3
    have := lt_of_block h.blk
    exact ⟨hb, ⟨rfl, .inl ⟨rfl, rfl⟩⟩, h.same hk0, by omega, by omega, by omega, by omega⟩
  have H0 := Lib.hid (And.intro hl0 hk0)
  have HBL := Lib.hid (fun W (l : LgAt W lb pb fb bb cb fs n (.slice none 0 0) [] f false) => lblocks_any W lb pb fb bb cb fs n _ [] f false l)
  have HCL := Lib.hid (fun W (l : LgAt W lb pb fb bb cb fs n (.slice none 0 0) [] f false) k (hk : k < n) => lclean_any W lb pb fb bb cb fs n _ [] f l hd k hk (by rw [hc k hk]; exact allB_full))
  have HMK := Lib.hid (fun W (l : LgAt W lb pb fb bb cb fs n (.slice none 0 0) [] f false) => makes_any W lb pb fb bb cb fs n _ [] f l hd ha 0 1 (by omega) (hc 0 (by omega)) (by decide) (by simp))
  have hnI : (4 : Int) ≤ n := by omega
  have hn256 : (n : Int) ≤ 256 := by have := h.bound.1; omega
  have hnf : decide ((n : Int) < 4) = false := decide_eq_false (by omega)
  have hlbI : lb = w.heap.size := hlb.symm
  have HLB := Lib.hid hlbI
  clear hlbI
  clear h hd ha h4 hc hl0 hk0
  go_enter Tryz.func70, Tryz.ntmps70
  go_upto_region 2 with (fail)
  clear hW hlb
  go_wp2_with (fail)
  refine (HBL.out _ H0.out.1).mono ?_
  rintro e w1 ⟨rfl, rfl⟩
  go_wp2_with (fail)
  refine (HBL.out _ H0.out.1).mono ?_
  rintro e w2 ⟨rfl, rfl⟩
  go_wp2_with (fail)
  go_loopw [16] (fun i wr => ∃ k : Nat, k ≤ n ∧ i = I k ∧ LgAt wr lb pb fb bb cb fs n (.slice none 0 0) [] f false ∧ Kept [] w wr) (fun i _ => n - (intOf i).toNat)
  case atStart => exact ⟨0, by omega, rfl, H0.out.1, H0.out.2⟩
  case round =>
    obtain ⟨k, hk, rfl, hl, kr⟩ := hrel
    have HR := Lib.hid (And.intro hl kr)
    clear hl kr
    by_cases hlt : k < n
    · have hltI : (k : Int) < n := by omega
      go_wp2_with (fail)
      refine (HCL.out _ HR.out.1 k hlt).mono ?_
      rintro e w3 ⟨rfl, h3, k3⟩
      have H3 := Lib.hid (And.intro h3 (HR.out.2.new k3 (by intro x hx; simp at hx; have := HLB.out; omega)))
      clear h3 k3
      go_wp2_with (fail)
      go_roundw
      case rel => exact ⟨k + 1, by omega, by go_num, H3.out.1, H3.out.2⟩
      case measure => simp [intOf]; omega
    · have hke : ¬ (k : Int) < n := by omega
      have hdf : decide ((k : Int) < n) = false := decide_eq_false hke
      go_wp2_with (fail)
      refine (HMK.out _ HR.out.1).mono ?_
      rintro e w3 ⟨rfl, v', hfr, h3, k3⟩
      have hsz := HR.out.2.size
      have hfin : LfPost pb fb bb cb fs n w f (.returned (.tuple #[Ptr lb, I 0])) w3 := ⟨lb, v', by have := HLB.out; omega, rfl, h3, fun q hq => by
        rcases hfr q hq with h | h
        · cases h
        · omega, by
        have k4 : Kept [lb, fb, bb, cb] wr w3 := k3.mono (by intro x hx; have e : (Value.slice none 0 0).ownBlock = none := rfl; simpa [LgT, e] using hx)
        exact (HR.out.2.mono (by simp) : Kept [fb, bb, cb] w wr).trans k4 (by have := HLB.out; intro x hx; simp at hx ⊢; omega)⟩
      have HFIN := Lib.hid hfin
      clear hfin hfr h3 k3
      go_wp2_with (fail)
      go_ret2
      exact HFIN.out
end Go.Proofs.YtdkjlaldhohbmaaGreat
