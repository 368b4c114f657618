/- Walks and lemmas on the program of this seat, used by its statements; each theorem bears its own conditions. -/
import Derived.Test.YtdkjlaldhohbmaaGreatQI
import Derived.Handy
import Derived.OwnWalk
import Derived.Deep.AppendLies
import Derived.IntWalk
import Derived.Deep.CutRange
import Derived.Deep.RegionHeld3
import Derived.Deep.RegionLaw
import Derived.Maps.OwnSet
import Derived.Maps.Range
import Derived.Deep.OwnRows
import Derived.Shelf.SlMaps.Clone
import Derived.Laws.CopyOwn
import Derived.Laws.IdiomCopy
namespace Go.Proofs.YtdkjlaldhohbmaaGreat
open Go.RowKit
set_option linter.unusedVariables false
set_option linter.unusedSimpArgs false
set_option maxHeartbeats 8000000
set_option maxRecDepth 100000
/-! ### The document's Put; holds -/
def DocAt (w : World) (rb n : Nat) (v : Value) (V : OM) : Prop := w.heap[rb]? = some (.cells #[I n, v] 50 (0, 0)) ∧ PsAt w v (mapA Ob.val V)
set_option maxHeartbeats 4000000 in
theorem rput_any (w : World) (rb n : Nat) (v : Value) (V : OM) (h : DocAt w rb n v V) (hq : ∀ q, v.ownBlock = some q → q ≠ rb) (hs : SortedA V) (h8 : 8 ≤ n) (hn : n ≤ 255) (hV : V.length ≤ 2000) (hV2 : ∀ p ∈ V, p.2.val.length ≤ 256) (cv : Value) (l : List Ch) (hc : ChsAt w cv l) (hl : l.length ≤ 4611686018427387904) :
    Calls Tryz.prog 19 #[Ptr rb, cv] w fun e w' => e = .returned (I (mayF n V l)) ∧ ∃ v', DocAt w' rb n v' (putF n V l) ∧ (∀ q, v'.ownBlock = some q → v.ownBlock = some q ∨ (w.heap.size ≤ q ∧ q < w'.heap.size)) ∧ Kept [rb] w w' := by
  obtain ⟨hb, hp⟩ := h
  have HM := Lib.hid (rmay_any w rb n v V hb hp hs h8 hn hV hV2 cv l hc hl)
  obtain ⟨y, hy⟩ : ∃ y, mayF n V l = y := ⟨_, rfl⟩
  rw [hy] at HM
  have HB := Lib.hid (And.intro hb (And.intro hp (And.intro hq (And.intro hs (And.intro hV (And.intro hc hy))))))
  have c1 := cell_at hb 1
  simp only [List.getElem?_toArray, List.getElem?_cons_zero, List.getElem?_cons_succ] at c1
  have hrlt := lt_of_block hb
  have HLT := Lib.hid hrlt
  clear hb hp hq hs h8 hn hV hV2 hl hy hrlt hc
  by_cases hz : y = 0
  case neg =>
    have hzb : (y == 0) = false := by simpa using hz
    go_enter Tryz.func19, Tryz.ntmps19
    go_wp2_with (fail)
    refine HM.out.mono ?_
    rintro e w1 ⟨rfl, k1⟩
    have K1 := Lib.hid k1
    clear k1
    go_wp2_with (fail)
    go_ret
    obtain ⟨hb, hp, hq, hs, hV, hc, hy⟩ := HB.out
    refine ⟨by rw [hy]; rfl, v, ⟨K1.out.at hb (by simp), ?_⟩, fun q h => .inl h, K1.out.mono (by simp)⟩
    rw [show putF n V l = V from by unfold putF; rw [if_neg (by rw [hy]; exact hz)]]
    exact hp.same K1.out
  case pos =>
    subst hz
    go_enter Tryz.func19, Tryz.ntmps19
    go_wp2_with (fail)
    refine HM.out.mono ?_
    rintro e w1 ⟨rfl, k1⟩
    have d1 := k1.cellOf c1
    have HW : Hid (Calls Tryz.prog 51 #[v, cv] w1 fun e w' => ∃ v', e = .returned v' ∧ w'.ownsRow w1.heap.size 62 2 v' (withV l (mapA Ob.val V)).length (pairCells (withV l (mapA Ob.val V))) ∧ Kept [] w1 w') := Lib.hid (by
      obtain ⟨hb, hp, hq, hs, hV, hc, hy⟩ := HB.out
      have hf := may_form hy
      have hr : (recF l).length ≤ 400 := by
        unfold mayF at hy
        rw [if_neg (by rw [hf]; simp)] at hy
        split at hy
        · cases hy
        · omega
      have hl2 : l.length ≤ 400 := by
        have : ∀ l : List Ch, l.length ≤ (recF l).length := fun l => by
          induction l with
          | nil => simp
          | cons c l ih =>
            rw [recF_cons, List.length_append, List.length_cons]
            have := chB_len c
            split at this <;> omega
        have := this l
        omega
      exact rwith_any w1 v (mapA Ob.val V) (hp.same k1) (by unfold mapA; rw [List.length_map]; omega) cv l (hc.same k1) (by omega))
    have K1 := Lib.hid k1
    clear k1
    go_wp2_with (fail)
    refine HW.out.mono ?_
    rintro e w2 ⟨v', rfl, own, k2⟩
    have hb2 := (K1.out.trans' k2).at HB.out.1 (by simp)
    have e1 := cell_at hb2 1
    have ef := free_at hb2
    simp only [List.getElem?_toArray, List.getElem?_cons_zero, List.getElem?_cons_succ] at e1
    have H2 := Lib.hid (And.intro own (And.intro k2 hb2))
    clear own k2 hb2
    obtain ⟨pv, cv', hpv⟩ := own_form H2.out.1
    subst hpv
    go_wp2_with (fail)
    go_ret
    obtain ⟨hb, hp, hq, hs, hV, hc, hy⟩ := HB.out
    obtain ⟨own, k2, hb2⟩ := H2.out
    have hbf := heap_setCell_at hb2 1 (.slice pv (withV l (mapA Ob.val V)).length cv')
    have kf : Kept [rb] w2 (w2.setCell ⟨rb, 1, none⟩ (.slice pv (withV l (mapA Ob.val V)).length cv')) := (Kept.refl _ _).setCell (.inl (by simp)) _
    obtain ⟨hps, hown⟩ := ps_of_own own
    have hlt := HLT.out
    have hks := K1.out.size
    refine ⟨by rw [hy]; rfl, _, ⟨by simpa using hbf, ?_⟩, fun q h => .inr (by have := hown q h; have := (own_lt own q h).2; have := kf.size; exact ⟨by omega, by omega⟩), ((K1.out.trans' k2).mono (by simp) : Kept [rb] w w2).trans' kf⟩
    have hpt : putF n V l = takesF V l 0 0 := by unfold putF; rw [if_pos hy]
    rw [hpt, ← with_take 0 0 l (formG_ok 0 l (may_form hy)).1 hs]
    exact hps.kept kf (fun q h hm => by have := hown q h; simp at hm; omega)
end Go.Proofs.YtdkjlaldhohbmaaGreat
