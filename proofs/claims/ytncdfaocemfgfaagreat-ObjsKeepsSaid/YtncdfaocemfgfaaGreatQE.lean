/- Walks and lemmas on the program of this seat, used by its statements; each theorem bears its own conditions. -/
import Derived.Test.YtncdfaocemfgfaaGreatXPG
import Derived.Handy
import Derived.OwnWalk
import Derived.Deep.AppendLies
import Derived.IntWalk
import Derived.Deep.CutRange
import Derived.Deep.RegionHeld3
import Derived.Deep.RegionLaw
import Derived.Maps.OwnSet
import Derived.Maps.Range
import Derived.Deep.OwnRows
import Derived.Shelf.SlIterI.Nil
import Derived.Shelf.SlGeneric
namespace Go.Proofs.YtncdfaocemfgfaaGreat
open Go.RowKit
set_option linter.unusedVariables false
set_option linter.unusedSimpArgs false
set_option maxHeartbeats 8000000
set_option maxRecDepth 100000
/-! ### Reads of a store that may be dead -/
structure CoreX (w : World) (sb mb : Nat) (x : Int) (M : OM) (dd : Bool) : Prop where
  c2 : w.cell? ⟨sb, 2, none⟩ = some (.map (some mb))
  c4 : w.cell? ⟨sb, 4, none⟩ = some (I x)
  c5 : w.cell? ⟨sb, 5, none⟩ = some (.bool dd)
  ob : ObAt w mb M
theorem CoreX.same {w w' : World} {sb mb : Nat} {x : Int} {M : OM} {dd : Bool} (h : CoreX w sb mb x M dd) (k : Kept [] w w') : CoreX w' sb mb x M dd := ⟨k.cellOf h.c2, k.cellOf h.c4, k.cellOf h.c5, h.ob.same k⟩
theorem CoreAt.toX {w : World} {sb pb lb mb kb : Nat} {x : Int} {M : OM} {C : List (Int × Nat)} (h : CoreAt w sb pb lb mb kb x M C) : CoreX w sb mb x M false := by
  obtain ⟨c0, c1, c2, c3, c4, c5⟩ := h.cells
  exact ⟨c2, c4, c5, h.ob⟩
theorem CoreX.find_some {w : World} {sb mb : Nat} {x : Int} {M : OM} {dd : Bool} (h : CoreX w sb mb x M dd) {k : Int} (hk : I64 k) {o : Ob} (ho : findA M k = some o) : (Instr.lookup 58 (.map (some mb)) (I k) true).run Tryz.prog w = .ok (.tuple #[.agg #[S o.val, I o.seg, I o.pos], .bool true]) w :=
  h.ob.look_some Tryz.underlying58 (ob_zero w) (obR_mk _) obR_inv hk ho
theorem CoreX.find_none {w : World} {sb mb : Nat} {x : Int} {M : OM} {dd : Bool} (h : CoreX w sb mb x M dd) {k : Int} (hk : I64 k) (ho : findA M k = none) : (Instr.lookup 58 (.map (some mb)) (I k) true).run Tryz.prog w = .ok (.tuple #[.agg #[S [], I 0, I 0], .bool false]) w :=
  h.ob.look_none Tryz.underlying58 (ob_zero w) (obR_mk _) (fun v ps hv => obR_inv v ⟨[], 0, 0⟩ ps hv) hk ho
set_option maxHeartbeats 4000000 in
theorem xkeys_any (w : World) (sb mb : Nat) (x : Int) (M : OM) (dd : Bool) (h : CoreX w sb mb x M dd) (hM : M.length ≤ 100000) (hK : ∀ k ∈ M.map (·.1), I64 k) (fr most : Int) :
    Calls Tryz.prog 30 #[Ptr sb, I fr, I most] w fun e w' => ∃ v, e = .returned v ∧ w'.ownsRow w.heap.size 3 1 v (keysF M fr most).length ((keysF M fr most).map fun k => I k) ∧ Kept [] w w' := by
  obtain ⟨c2, c4, c5, _⟩ := id h
  obtain ⟨D, hown, hsz, hkeys⟩ := ob_keys h.ob
  obtain ⟨i0, hi, hz0, hz1, hz2⟩ := info_parts int_info
  have hml := hown.lt
  have HSO : Hid (Calls Tryz.prog 62 #[.func (.func 85) #[] #[.pointer (some ⟨w.heap.size, 0, none⟩)]] (w.alloc (.cells #[.map (some mb)] 58)) fun e w' => ∃ v, e = .returned v ∧ w'.ownsRow w.heap.size 3 1 v M.length ((M.map (·.1)).map fun k => I k) ∧ Kept [] w w') := Lib.hid (by
    refine (msorted_any mb _ D obR w hown (by rw [hsz]; unfold maxLen; omega) (by rw [hsz]; omega)).mono ?_
    rintro e w' ⟨v, ss, rfl, hp, hrow, hnil, hb⟩
    obtain ⟨e1, e2⟩ := hkeys ss hp
    refine ⟨v, rfl, ?_, ((Kept.refl [] w).alloc _).trans' (Kept.of_below hb (Nat.le_refl _))⟩
    rw [show (ss.mergeSort fun x y => decide (x ≤ y)) = M.map (·.1) from e1, e2] at hrow
    refine ⟨hrow.1, ?_⟩
    rcases hrow.2 with h1 | ⟨g, cap, cur, h1, h2, h3⟩
    · exact .inl h1
    · exact .inr ⟨g, cap, cur, h1, by rw [World.size_alloc] at h2; omega, h3⟩)
  have HI := Lib.hid (And.intro hi (And.intro hz0 (And.intro hz1 hz2)))
  obtain ⟨ks, hks⟩ : ∃ ks, M.map (·.1) = ks := ⟨_, rfl⟩
  have hkl : ks.length = M.length := by rw [← hks]; simp
  have HF : Hid (keysF M fr most = (ks.filter fun k => decide (fr ≤ k)).take most.toNat) := Lib.hid (by unfold keysF; rw [hks])
  rw [hks] at HSO hK
  rw [← hkl] at HSO hM
  have HK := Lib.hid hK
  clear h hown hsz hkeys hi hz0 hz1 hz2 hks hkl hK c4 c5
  go_enter Tryz.func30, Tryz.ntmps30
  go_wp2_with (fail)
  refine (mkeys_any _ _).mono ?_
  rintro e w1 ⟨rfl, rfl⟩
  go_wp2_with (fail)
  refine HSO.out.mono ?_
  rintro e w2 ⟨v, rfl, own, k2⟩
  obtain ⟨p, c, rfl⟩ := own_form own
  have H2 := Lib.hid (And.intro own k2)
  clear own k2 c2
  have HG : Hid (∀ q, (Value.slice p ks.length c).ownBlock = some q → q < w2.heap.size) := Lib.hid (fun q hq => (own_lt H2.out.1 q hq).2)
  go_wp2_with (fail)
  go_loopw [7, 17] (fun v7 v17 wr => ∃ (a b : List Int), ks = a ++ b ∧ v17 = I a.length ∧ wr.ownsRow w2.heap.size 3 1 v7 ((a.filter fun k => decide (fr ≤ k)).take most.toNat).length (((a.filter fun k => decide (fr ≤ k)).take most.toNat).map fun k => I k) ∧ wr.ownsRow w.heap.size 3 1 (.slice p ks.length c) ks.length (ks.map fun k => I k) ∧ Kept [] w2 wr) (fun _ i _ => ks.length - (intOf i).toNat)
  case atStart => exact ⟨[], ks, rfl, rfl, ⟨by simp, .inl ⟨rfl, by simp⟩⟩, H2.out.1, Kept.refl _ _⟩
  case round =>
    obtain ⟨a, b, hab, rfl, own7, own, kr⟩ := hrel
    obtain ⟨hi, hz0, hz1, hz2⟩ := HI.out
    obtain ⟨p7, c7, rfl⟩ := own_form own7
    cases b with
    | nil =>
      rw [List.append_nil] at hab
      subst hab
      have HR := Lib.hid (And.intro own7 kr)
      clear own7 own kr
      go_wp2_with (fail)
      go_ret
      exact ⟨_, rfl, by rw [HF.out]; exact own_base HR.out.1 H2.out.2.size, H2.out.2.trans' HR.out.2⟩
    | cons x b =>
      have hkl : ks.length = a.length + (b.length + 1) := by rw [hab]; simp
      obtain ⟨g, c', e, hbg, hcc⟩ := row_cells1 own (by omega)
      cases e
      have hx := hcc a.length (by omega)
      rw [List.getElem?_map, show ks[a.length]? = some x by rw [hab, List.getElem?_append_right (Nat.le_refl _), Nat.sub_self]; rfl] at hx
      simp only [Option.map_some] at hx
      have hltI : (a.length : Int) < ks.length := by omega
      have hkI : (ks.length : Int) ≤ 100000 := by omega
      have hlt : a.length < ks.length := by omega
      obtain ⟨L, hL⟩ : ∃ L, (a.filter fun k => decide (fr ≤ k)).take most.toNat = L := ⟨_, rfl⟩
      have HST := Lib.hid (takeF_snoc a x (fun k => decide (fr ≤ k)) most.toNat)
      rw [hL] at own7 HST ⊢
      have hLl : L.length ≤ 100000 := by
        rw [← hL, List.length_take]
        have := List.length_filter_le (fun k => decide (fr ≤ k)) a
        omega
      have HAB := Lib.hid (And.intro hab hL)
      have HR := Lib.hid (And.intro own7 (And.intro own kr))
      clear hab hL own7 own kr hcc hkl
      by_cases c1 : fr ≤ x
      · by_cases c2 : (L.length : Int) < most
        · go_wp2_with (first
            | (at_builtin
               refine wpList_append_lies _ rfl (.tmp 30) (.tmp 32) _ rfl w2.heap.size 3 i0 (.int .i64 0) 1 8 Tryz.underlying65 hi hz0 hz1 hz2 rfl (by decide) (.slice p7 L.length c7) L.length (L.map fun k => I k) rfl (own_kept HR.out.1 ((Kept.refl [] wr).alloc _) (by simp)) ⟨wr.heap.size, 0, none⟩ 1 1 [I x] rfl rfl (World.news_of_block (heap_new wr _)) (by intro u hu; simp at hu; subst hu; rfl) (by decide) (by unfold maxLen; omega) (by omega) (by rw [World.size_alloc]; have := HR.out.2.2.size; omega) _ rfl ?_
               intro g1 cap wa own1 gr1 hat hlt2
               have HA := Lib.hid (And.intro own1 gr1)
               clear own1 gr1 hat hlt2))
          go_roundw
          case rel =>
            obtain ⟨own1, gr1⟩ := HA.out
            refine ⟨a ++ [x], b, by rw [HAB.out.1]; simp, by simp, ?_, ?_, ?_⟩
            · rw [HST.out, if_pos ⟨by simpa using c1, by omega⟩, List.length_append, List.map_append]
              exact own1
            · refine own_kept (own_kept HR.out.2.1 ((Kept.refl [] wr).alloc _) (by simp)) (kept_grown gr1) (fun q hq hm => ?_)
              have := HG.out q hq
              have := (own_lt HR.out.1 q (by simpa using hm)).1
              omega
            · exact (HR.out.2.2.alloc _).new (kept_grown gr1) (fun q hq => (own_lt HR.out.1 q (by simpa using hq)).1)
          case measure => simp [intOf]; omega
        · go_wp2_with (fail)
          go_roundw
          case rel =>
            refine ⟨a ++ [x], b, by rw [HAB.out.1]; simp, by simp, ?_, HR.out.2.1, HR.out.2.2⟩
            rw [HST.out, if_neg (by rintro ⟨_, h⟩; omega)]
            exact HR.out.1
          case measure => simp [intOf]; omega
      · go_wp2_with (fail)
        go_roundw
        case rel =>
          refine ⟨a ++ [x], b, by rw [HAB.out.1]; simp, by simp, ?_, HR.out.2.1, HR.out.2.2⟩
          rw [HST.out, if_neg (by rintro ⟨h, _⟩; simp at h; omega)]
          exact HR.out.1
        case measure => simp [intOf]; omega

theorem xget_any (w : World) (sb mb : Nat) (x : Int) (M : OM) (dd : Bool) (h : CoreX w sb mb x M dd) (k : Int) (hk : I64 k) :
    Calls Tryz.prog 33 #[Ptr sb, I k] w fun e w' => e = .returned (.tuple #[S (valF M k), .bool (findA M k).isSome]) ∧ Kept [] w w' := by
  obtain ⟨c2, c4, c5, _⟩ := id h
  obtain ⟨ov, os, op, is, hov, hlook⟩ : ∃ (ov : List UInt8) (os op : Nat) (is : Bool), (valF M k = ov ∧ (findA M k).isSome = is) ∧ (Instr.lookup 58 (.map (some mb)) (I k) true).run Tryz.prog w = .ok (.tuple #[.agg #[S ov, I os, I op], .bool is]) w := by
    unfold valF
    cases hfo : findA M k with
    | none => exact ⟨[], 0, 0, false, ⟨rfl, rfl⟩, h.find_none hk hfo⟩
    | some ob => exact ⟨ob.val, ob.seg, ob.pos, true, ⟨rfl, rfl⟩, h.find_some hk hfo⟩
  rw [hov.1, hov.2]
  have hnw := heap_new w (Obj.cells #[S [], I 0, I 0] 88)
  have hf2 := free_at hnw
  have z0 := cell_at hnw 0
  have z1 := cell_at hnw 1
  have z2 := cell_at hnw 2
  simp only [List.getElem?_toArray, List.getElem?_cons_zero, List.getElem?_cons_succ] at z0 z1 z2
  have HN := Lib.hid hnw
  clear h hk hov hnw c4 c5
  go_enter Tryz.func33, Tryz.ntmps33
  go_wp2_with (fail)
  have hst := store3 HN.out (S ov) (I os) (I op)
  have q0 := cell_at hst 0
  simp only [List.getElem?_toArray, List.getElem?_cons_zero, List.getElem?_cons_succ] at q0
  go_wp2_with (fail)
  go_ret2
  exact ⟨rfl, (Kept.refl [] w).alloc _⟩
theorem xweight_any (w : World) (sb mb : Nat) (x : Int) (M : OM) (dd : Bool) (h : CoreX w sb mb x M dd) :
    Calls Tryz.prog 31 #[Ptr sb] w fun e w' => e = .returned (I x) ∧ w' = w := by
  obtain ⟨c2, c4, c5, _⟩ := id h
  clear h
  go_enter Tryz.func31, Tryz.ntmps31
  go_wp2_with (fail)
  go_ret
  exact ⟨rfl, rfl⟩
theorem xdead_any (w : World) (sb mb : Nat) (x : Int) (M : OM) (dd : Bool) (h : CoreX w sb mb x M dd) :
    Calls Tryz.prog 11 #[Ptr sb] w fun e w' => e = .returned (.bool dd) ∧ w' = w := by
  obtain ⟨c2, c4, c5, _⟩ := id h
  clear h
  go_enter Tryz.func11, Tryz.ntmps11
  go_wp2_with (fail)
  go_ret
  exact ⟨rfl, rfl⟩

/-- What a store tells, dead or not. -/
def RD (w : World) (sb : Nat) (V : OM) : Prop := SortedA V ∧ ∃ mb M dd, CoreX w sb mb (sumA wO M) M dd ∧ SortedA M ∧ (∀ k, valM M k = valM V k) ∧ (∀ k ∈ M.map (·.1), 1 ≤ k ∧ k ≤ 2147483647) ∧ sumA wO M ≤ 2000 ∧ Vals256 M
theorem RD.same {w w' : World} {sb : Nat} {V : OM} (h : RD w sb V) (k : Kept [] w w') : RD w' sb V := by
  obtain ⟨h0, mb, M, dd, h1, h2⟩ := h
  exact ⟨h0, mb, M, dd, h1.same k, h2⟩
theorem RD.keys {w : World} {sb : Nat} {V : OM} (h : RD w sb V) (fr most : Int) :
    Calls Tryz.prog 30 #[Ptr sb, I fr, I most] w fun e w' => ∃ kv, e = .returned kv ∧ w'.ownsRow w.heap.size 3 1 kv (keysF V fr most).length ((keysF V fr most).map fun k => I k) ∧ Kept [] w w' := by
  obtain ⟨h0, mb, M, dd, h1, h2, h3, h4, h5, h6⟩ := h
  rw [← keysF_val h2 h0 h3 fr most]
  exact xkeys_any w sb mb _ M dd h1 (by have := om_len M; omega) (fun k hk => by have := h4 k hk; exact ⟨by omega, by omega⟩) fr most
theorem RD.weight {w : World} {sb : Nat} {V : OM} (h : RD w sb V) : Calls Tryz.prog 31 #[Ptr sb] w fun e w' => e = .returned (I (sumA wO V : Nat)) ∧ w' = w := by
  obtain ⟨h0, mb, M, dd, h1, h2, h3, h4, h5, h6⟩ := h
  rw [← weight_same h2 h0 h3]
  exact xweight_any w sb mb _ M dd h1
theorem RD.get {w : World} {sb : Nat} {V : OM} (h : RD w sb V) (k : Int) (hk : I64 k) : Calls Tryz.prog 33 #[Ptr sb, I k] w fun e w' => e = .returned (.tuple #[S (getF V k), .bool (valM V k).isSome]) ∧ Kept [] w w' := by
  obtain ⟨h0, mb, M, dd, h1, h2, h3, h4, h5, h6⟩ := h
  have := xget_any w sb mb _ M dd h1 k hk
  rw [show valF M k = getF V k from by unfold valF getF; rw [← h3 k]; rfl, show (findA M k).isSome = (valM V k).isSome from by rw [← h3 k]; unfold valM; rw [Option.isSome_map]] at this
  exact this
/-- What the document's list says of such a store. -/
theorem RD.facts {w : World} {sb : Nat} {V : OM} (h : RD w sb V) : SortedA V ∧ (∀ p ∈ V, 1 ≤ p.1 ∧ p.1 ≤ 2147483647 ∧ p.2.val.length ≤ 256) ∧ V.length ≤ 2000 ∧ sumA wO V ≤ 2000 := by
  obtain ⟨h0, mb, M, dd, h1, h2, h3, h4, h5, h6⟩ := h
  have e := congrArg (fun l : List (Int × List UInt8) => l.map (·.1)) (val_map h2 h0 h3)
  simp only [mapA, List.map_map, Function.comp_def] at e
  have hw := weight_same h2 h0 h3
  refine ⟨h0, fun p hp => ?_, by have := om_len V; omega, by omega⟩
  have hk := h4 p.1 (by rw [show M.map (·.1) = V.map (·.1) from e]; exact List.mem_map_of_mem hp)
  have hf := find_of_mem h0 (k := p.1) (o := p.2) hp
  have hv := h3 p.1
  unfold valM at hv
  rw [hf] at hv
  cases ho : findA M p.1 with
  | none => rw [ho] at hv; cases hv
  | some o =>
    rw [ho] at hv
    have e2 : o.val = p.2.val := by simpa using hv
    exact ⟨hk.1, hk.2, by rw [← e2]; exact h6 _ _ ho⟩
theorem sv_rd {w : World} {sb lb pb fb bb cb mb kb n : Nat} {v : Value} {V : OM} {d : Nat} (h : SV w sb lb pb fb bb cb mb kb n v V d) : RD w sb V := by
  have hsm := h.small
  obtain ⟨h0, st, f, h1, h2, h3, h4⟩ := h
  obtain ⟨C, hc, _⟩ := h1.core
  exact ⟨h0, mb, st.M, false, hc.toX, h1.inv.sorted, h4, om_keys h1.inv, by rw [weight_same h1.inv.sorted h0 h4]; omega, vals_of h1.inv⟩

end Go.Proofs.YtncdfaocemfgfaaGreat
