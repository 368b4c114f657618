/- Walks and lemmas on the program of this seat, used by its statements; each theorem bears its own conditions. -/
import Derived.Test.YtdkjlaldhohbmaaGreatOP
import Derived.Handy
import Derived.OwnWalk
import Derived.Deep.AppendLies
import Derived.IntWalk
import Derived.Deep.CutRange
import Derived.Deep.RegionHeld3
import Derived.Deep.RegionLaw
namespace Go.Proofs.YtdkjlaldhohbmaaGreat
open Go.RowKit
set_option linter.unusedVariables false
set_option linter.unusedSimpArgs false
set_option maxHeartbeats 8000000
set_option maxRecDepth 100000
/-! ### slices.IndexFunc at the segments -/
theorem Kept.cellOf {w w' : World} (k : Kept [] w w') {p : Addr} {v : Value} (h : w.cell? p = some v) : w'.cell? p = some v := (k.cell (World.block_lt_of_cell? w _ h) (by simp)).trans h
theorem ixf_any (w : World) (segs : List Sg) (g c q k : Nat) (t : Int) (hs : segs.length ≤ 1000) (hk : k < segs.length)
    (hc : ∀ (i : Nat) (hi : i < segs.length), w.cell? ⟨g, i * 2, none⟩ = some (I segs[i].1) ∧ w.cell? ⟨g, i * 2 + 1, none⟩ = some (I segs[i].2))
    (ht : ((segs[k].2 : Int) == t) = true) (hn : ∀ (j : Nat) (hj : j < k), ((segs[j].2 : Int) == t) = false) (hq : w.cell? ⟨q, 0, none⟩ = some (I t)) :
    Calls Tryz.prog 89 #[.slice (some ⟨g, 0, none⟩) segs.length c, .func (.func 90) #[] #[Ptr q]] w fun e w' => e = .returned (I k) ∧ Kept [] w w' := by
  have hsI : (segs.length : Int) ≤ 1000 := by omega
  have HC := Lib.hid (And.intro hc (And.intro ht (And.intro hn hq)))
  clear hc ht hn hq
  go_enter Tryz.func89, Tryz.ntmps89
  go_wp2_with (fail)
  go_loopw [5, 8] (fun _ vi wr => ∃ j : Nat, j ≤ k ∧ vi = I j ∧ Kept [] w wr) (fun _ vi _ => segs.length - (intOf vi).toNat)
  case atStart => exact ⟨0, by omega, rfl, Kept.refl _ _⟩
  case round =>
    obtain ⟨j, hj, rfl, kr⟩ := hrel
    obtain ⟨hc, ht, hn, hq⟩ := HC.out
    have hjl : j < segs.length := by omega
    have hjI : (j : Int) < segs.length := by omega
    have hjI0 : (0 : Int) ≤ j := by omega
    obtain ⟨a0, a1⟩ := hc j hjl
    have e0 := kr.cellOf a0
    have e1 := kr.cellOf a1
    have hqr := kr.cellOf hq
    have HP := Lib.hid (fun b num => recp_any wr b num t q hqr)
    have HR := Lib.hid kr
    clear hc ht hn hq a0 a1 hqr kr
    go_wp2_with (fail)
    refine (HP.out _ _).mono ?_
    rintro e w2 ⟨rfl, rfl⟩
    clear e0 e1
    have k2 := HR.out.alloc (Obj.cells #[I segs[j].1, I segs[j].2] 119)
    generalize wr.alloc (Obj.cells #[I segs[j].1, I segs[j].2] 119) = w2 at k2 ⊢
    by_cases hjk : j = k
    · subst hjk
      have ht := HC.out.2.1
      rw [ht]
      clear ht
      go_wp2_with (fail)
      go_ret
      exact ⟨rfl, k2⟩
    · have hn := HC.out.2.2.1 j (by omega)
      rw [hn]
      clear hn
      go_wp2_with (fail)
      go_roundw
      case rel => exact ⟨j + 1, by omega, by go_num, k2⟩
      case measure => simp [intOf]; omega
end Go.Proofs.YtdkjlaldhohbmaaGreat
