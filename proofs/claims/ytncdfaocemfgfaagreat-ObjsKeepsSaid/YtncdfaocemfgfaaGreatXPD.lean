/- Walks and lemmas on the program of this seat, used by its statements; each theorem bears its own conditions. -/
import Derived.Test.YtncdfaocemfgfaaGreatXPA
import Derived.Test.YtncdfaocemfgfaaGreatShelf
import Derived.Handy
import Derived.OwnWalk
import Derived.Deep.AppendLies
import Derived.IntWalk
import Derived.Deep.CutRange
import Derived.Deep.RegionHeld3
import Derived.Deep.RegionLaw
import Derived.Shelf.SlIterI.Nil
import Derived.Shelf.SlGeneric
import Derived.Lib.MakeNoZero
import Derived.Laws.CopyOwn
import Derived.Deep.OwnRows
namespace Go.Proofs.YtncdfaocemfgfaaGreat
open Go.RowKit
set_option linter.unusedVariables false
set_option linter.unusedSimpArgs false
section
set_option maxHeartbeats 8000000
set_option maxRecDepth 100000
/-! ### slices.Sorted(maps.Keys(m)), laid -/
open Go.Maps Go.Sort Go.Shelf
def keysL_ren : Go.Shelf.Ren := ⟨fun | 7 => 63 | 10 => 85 | n => n, fun | 23 => 58 | 26 => 3 | 3 => 88 | 28 => 112 | 0 => 0 | 27 => 111 | 33 => 134 | 4 => 4 | n => n, fun | n => n⟩
theorem keysL : SlLaysZI.n7 Tryz.prog keysL_ren := {
  mixed := by kernel_rfl
  f7 := ⟨ "maps.Keys[map[int]farrier/objs.object,int,farrier/objs.object]", by decide, Tryz.func63.trans (congrArg some (by kernel_rfl))⟩
  f10 := ⟨ "maps.Keys[map[int]farrier/objs.object,int,farrier/objs.object]$1", by decide, Tryz.func85.trans (congrArg some (by kernel_rfl))⟩
  t0 := Tryz.underlying0
  a0 := Tryz.isAgg0
  z0 := Tryz.sizeOf0
  v0 := Tryz.zeroValue0
  t4 := Tryz.underlying4
  a4 := Tryz.isAgg4
  z4 := Tryz.sizeOf4
  v4 := Tryz.zeroValue4
  t23 := Tryz.underlying58
  a23 := Tryz.isAgg58
  z23 := Tryz.sizeOf58
  v23 := Tryz.zeroValue58
  t26 := Tryz.underlying3
  a26 := Tryz.isAgg3
  z26 := Tryz.sizeOf3
  v26 := Tryz.zeroValue3
  t27 := Tryz.underlying111
  a27 := Tryz.isAgg111
  z27 := Tryz.sizeOf111
  v27 := Tryz.zeroValue111
  t28 := Tryz.underlying112
  a28 := Tryz.isAgg112
  z28 := Tryz.sizeOf112
  v28 := Tryz.zeroValue112
  t33 := Tryz.underlying134
  a33 := Tryz.isAgg134
  z33 := Tryz.sizeOf134
  v33 := Tryz.zeroValue134
 }
def sortedL_ren : Go.Shelf.Ren := ⟨fun | 6 => 62 | 8 => 83 | 9 => 84 | 11 => 102 | n => n, fun | 26 => 3 | 28 => 112 | 24 => 65 | 0 => 0 | 33 => 134 | n => n, fun | n => n⟩
theorem sortedL : SlLaysZI.n6 Tryz.prog sortedL_ren := {
  mixed := by kernel_rfl
  f6 := ⟨ "slices.Sorted[int]", by decide, Tryz.func62.trans (congrArg some (by kernel_rfl))⟩
  f8 := ⟨ "slices.Collect[int]", by decide, Tryz.func83.trans (congrArg some (by kernel_rfl))⟩
  f11 := ⟨ "slices.AppendSeq[[]int,int]", by decide, Tryz.func102.trans (congrArg some (by kernel_rfl))⟩
  t0 := Tryz.underlying0
  a0 := Tryz.isAgg0
  z0 := Tryz.sizeOf0
  v0 := Tryz.zeroValue0
  t24 := Tryz.underlying65
  a24 := Tryz.isAgg65
  z24 := Tryz.sizeOf65
  v24 := Tryz.zeroValue65
  t26 := Tryz.underlying3
  a26 := Tryz.isAgg3
  z26 := Tryz.sizeOf3
  v26 := Tryz.zeroValue3
  t28 := Tryz.underlying112
  a28 := Tryz.isAgg112
  z28 := Tryz.sizeOf112
  v28 := Tryz.zeroValue112
  i26 := by kernel_rfl
 }
/-! ### Keys -/
theorem sortsI (m : Nat) : AnyZI.SortsIn Tryz.prog sortedL_ren Fence.wide m :=
  ⟨fun blk off cap ss W hH hblk hsz => callsIn_wide.2 (Tryz.slices_Sort_int blk off cap ss W hH hblk hsz),
   fun p cap W => callsIn_wide.2 (Tryz.slices_Sort_int_none p cap W)⟩
theorem mkeys_any (mb : Option Nat) (w : World) :
    Calls Tryz.prog 63 #[.map mb] w fun e w' => e = .returned (.func (.func 85) #[] #[.pointer (some ⟨w.heap.size, 0, none⟩)]) ∧ w' = w.alloc (.cells #[.map mb] 58) :=
  callsIn_wide.1 (AnyZI.keys_in keysL Fence.wide 5 trivial rfl mb w)
set_option maxHeartbeats 1000000 in
theorem msorted_any (b nn : Nat) (D0 : DataW Unit) (R : Value → Option (DataW Unit × List MemPlace)) (w : World) (hown : w.ownsMap Tryz.prog 3 R b nn D0) (hmax : Maps.size D0 ≤ maxLen) (hbytes : Maps.size D0 * 8 ≤ 140737488355328) :
    Calls Tryz.prog 62 #[.func (.func 85) #[] #[.pointer (some ⟨w.heap.size, 0, none⟩)]] (w.alloc (.cells #[.map (some b)] 58)) fun e w' => ∃ (v : Value) (ss : List Int), e = .returned v ∧ ss.Perm (intKeys D0) ∧
      w'.ownsRow (w.alloc (.cells #[.map (some b)] 58)).heap.size 3 1 v ss.length ((ss.mergeSort (fun x y => decide (x ≤ y))).map encZ) ∧ (v = .slice none 0 0 ↔ ss = []) ∧ Below (w.alloc (.cells #[.map (some b)] 58)).heap.size (w.alloc (.cells #[.map (some b)] 58)) w' := by
  have hbl := hown.lt
  have hseq : SeqGives Fence.wide 2 Tryz.prog 85 #[.pointer (some ⟨w.heap.size, 0, none⟩)] encZ (fun ss => ss.Perm (intKeys D0)) (Maps.size D0) (w.alloc (.cells #[.map (some b)] 58)) :=
    AnyZI.keys_gives (ρ := keysL_ren) { keysL with } Fence.wide _ trivial rfl (by omega) w.heap.size b nn D0 _ (by simp) (by simp) (by
      obtain ⟨es, clock, hb, Ft, hs, hD⟩ := hown
      exact ⟨es, clock, (Below.heap_alloc _ _ b hbl).trans hb, Ft, hs, hD⟩)
  exact callsIn_wide.1 (AnyZI.sorted_in sortedL Fence.wide 5 trivial trivial trivial trivial rfl (by omega) (sortsI _) (enters_of Tryz.func84 (by kernel_rfl) rfl) 85 #[.pointer (some ⟨w.heap.size, 0, none⟩)] trivial (enters_of Tryz.func85 (by kernel_rfl) rfl) _ _ hmax hbytes _ hseq)
theorem mem_find {α : Type} {M : List (Int × α)} (k : Int) : k ∈ M.map (·.1) ↔ (findA M k).isSome = true := by
  induction M with
  | nil => simp [findA]
  | cons p t ih =>
    simp only [List.map_cons, List.mem_cons, findA]
    by_cases h : p.1 = k
    · simp [h]
    · simp only [h, if_false, ← ih]
      exact ⟨fun q => q.resolve_left (fun e => h e.symm), .inr⟩
theorem sortA {α : Type} {M : List (Int × α)} (h : SortedA M) : (M.map (·.1)).mergeSort leI = M.map (·.1) := by
  refine List.mergeSort_of_pairwise (List.pairwise_map.2 (h.imp fun {a b} hab => ?_))
  simp only [leI, decide_eq_true_eq]
  exact Int.le_of_lt hab
theorem ob_keys {w : World} {mb : Nat} {M : OM} (h : ObAt w mb M) : ∃ D, w.ownsMap Tryz.prog 3 obR mb M.length D ∧ Maps.size D = M.length ∧ ∀ ss : List Int, ss.Perm (intKeys D) → ss.mergeSort leI = M.map (·.1) ∧ ss.length = M.length := by
  obtain ⟨D, h1, h2, h3, _⟩ := h.own
  refine ⟨D, h1, h2, fun ss hp => ?_⟩
  have hq : (M.map (·.1)).Perm (intKeys D) := by
    obtain ⟨es, hD, hpw, _⟩ := h1.entries int_law
    obtain ⟨es', hD', hko⟩ := h1.keysOf
    obtain rfl : es = es' := by rw [hD] at hD'; simpa using hD'
    subst hD
    refine perm_intKeys hpw (fun p hp => by obtain ⟨v, hv⟩ := hko p hp; obtain ⟨x, _, hx, _⟩ := Maps.keyOf_i64 Tryz.underlying3 hv; exact ⟨x, hx⟩) (List.pairwise_map.2 (h.srt.imp fun {a b} hab => by omega)) (fun x => ?_)
    rw [mem_find]
    exact Eq.to_iff (congrArg (· = true) (h3 x).symm)
  have hr := hp.trans hq.symm
  exact ⟨(mergeSort_of_perm_i hr).trans (sortA h.srt), by simpa using hr.length_eq⟩
/-- What Keys answers. -/
def keysF (M : OM) (fr most : Int) : List Int := ((M.map (·.1)).filter fun k => decide (fr ≤ k)).take most.toNat
theorem takeF_snoc (a : List Int) (x : Int) (p : Int → Bool) (m : Nat) : ((a ++ [x]).filter p).take m = if p x = true ∧ ((a.filter p).take m).length < m then (a.filter p).take m ++ [x] else (a.filter p).take m := by
  rw [List.filter_append]
  by_cases hp : p x = true
  · rw [show [x].filter p = [x] by simp [hp], List.take_append]
    by_cases hl : (a.filter p).length < m
    · have : (a.filter p).take m = a.filter p := List.take_of_length_le (by omega)
      rw [this, if_pos ⟨hp, hl⟩, List.take_of_length_le (by simp; omega)]
    · rw [show m - (a.filter p).length = 0 by omega, List.take_zero, List.append_nil, if_neg]
      rintro ⟨_, h⟩
      rw [List.length_take] at h
      omega
  · rw [show [x].filter p = [] by simp [hp], List.append_nil, if_neg (fun h => hp h.1)]
theorem own_base {w : World} {B B' : Nat} {t : TypeId} {size : Nat} {v : Value} {n : Nat} {xs : List Value} (h : w.ownsRow B t size v n xs) (hB : B' ≤ B) : w.ownsRow B' t size v n xs := by
  refine ⟨h.1, ?_⟩
  rcases h.2 with h1 | ⟨g, cap, cur, h1, h2, h3⟩
  · exact .inl h1
  · exact .inr ⟨g, cap, cur, h1, Nat.le_trans hB h2, h3⟩
set_option maxHeartbeats 4000000 in
theorem okeys_any (w : World) (sb pb lb mb kb : Nat) (x : Int) (M : OM) (C : List (Int × Nat)) (h : CoreAt w sb pb lb mb kb x M C) (hM : M.length ≤ 100000) (hK : ∀ k ∈ M.map (·.1), I64 k) (fr most : Int) :
    Calls Tryz.prog 30 #[Ptr sb, I fr, I most] w fun e w' => ∃ v, e = .returned v ∧ w'.ownsRow w.heap.size 3 1 v (keysF M fr most).length ((keysF M fr most).map fun k => I k) ∧ Kept [] w w' := by
  obtain ⟨c0, c1, c2, c3, c4, c5⟩ := h.cells
  obtain ⟨D, hown, hsz, hkeys⟩ := ob_keys h.ob
  obtain ⟨i0, hi, hz0, hz1, hz2⟩ := info_parts int_info
  have hml := hown.lt
  have HSO : Hid (Calls Tryz.prog 62 #[.func (.func 85) #[] #[.pointer (some ⟨w.heap.size, 0, none⟩)]] (w.alloc (.cells #[.map (some mb)] 58)) fun e w' => ∃ v, e = .returned v ∧ w'.ownsRow w.heap.size 3 1 v M.length ((M.map (·.1)).map fun k => I k) ∧ Kept [] w w') := Lib.hid (by
    refine (msorted_any mb _ D obR w hown (by rw [hsz]; unfold maxLen; omega) (by rw [hsz]; omega)).mono ?_
    rintro e w' ⟨v, ss, rfl, hp, hrow, hnil, hb⟩
    obtain ⟨e1, e2⟩ := hkeys ss hp
    refine ⟨v, rfl, ?_, ((Kept.refl [] w).alloc _).trans' (Kept.of_below hb (Nat.le_refl _))⟩
    rw [show (ss.mergeSort fun x y => decide (x ≤ y)) = M.map (·.1) from e1, e2] at hrow
    refine ⟨hrow.1, ?_⟩
    rcases hrow.2 with h1 | ⟨g, cap, cur, h1, h2, h3⟩
    · exact .inl h1
    · exact .inr ⟨g, cap, cur, h1, by rw [World.size_alloc] at h2; omega, h3⟩)
  have HI := Lib.hid (And.intro hi (And.intro hz0 (And.intro hz1 hz2)))
  obtain ⟨ks, hks⟩ : ∃ ks, M.map (·.1) = ks := ⟨_, rfl⟩
  have hkl : ks.length = M.length := by rw [← hks]; simp
  have HF : Hid (keysF M fr most = (ks.filter fun k => decide (fr ≤ k)).take most.toNat) := Lib.hid (by unfold keysF; rw [hks])
  rw [hks] at HSO hK
  rw [← hkl] at HSO hM
  have HK := Lib.hid hK
  clear h hown hsz hkeys hi hz0 hz1 hz2 hks hkl hK c0 c1 c3 c4 c5
  go_enter Tryz.func30, Tryz.ntmps30
  go_wp2_with (fail)
  refine (mkeys_any _ _).mono ?_
  rintro e w1 ⟨rfl, rfl⟩
  go_wp2_with (fail)
  refine HSO.out.mono ?_
  rintro e w2 ⟨v, rfl, own, k2⟩
  obtain ⟨p, c, rfl⟩ := own_form own
  have H2 := Lib.hid (And.intro own k2)
  clear own k2 c2
  have HG : Hid (∀ q, (Value.slice p ks.length c).ownBlock = some q → q < w2.heap.size) := Lib.hid (fun q hq => (own_lt H2.out.1 q hq).2)
  go_wp2_with (fail)
  go_loopw [7, 17] (fun v7 v17 wr => ∃ (a b : List Int), ks = a ++ b ∧ v17 = I a.length ∧ wr.ownsRow w2.heap.size 3 1 v7 ((a.filter fun k => decide (fr ≤ k)).take most.toNat).length (((a.filter fun k => decide (fr ≤ k)).take most.toNat).map fun k => I k) ∧ wr.ownsRow w.heap.size 3 1 (.slice p ks.length c) ks.length (ks.map fun k => I k) ∧ Kept [] w2 wr) (fun _ i _ => ks.length - (intOf i).toNat)
  case atStart => exact ⟨[], ks, rfl, rfl, ⟨by simp, .inl ⟨rfl, by simp⟩⟩, H2.out.1, Kept.refl _ _⟩
  case round =>
    obtain ⟨a, b, hab, rfl, own7, own, kr⟩ := hrel
    obtain ⟨hi, hz0, hz1, hz2⟩ := HI.out
    obtain ⟨p7, c7, rfl⟩ := own_form own7
    cases b with
    | nil =>
      rw [List.append_nil] at hab
      subst hab
      have HR := Lib.hid (And.intro own7 kr)
      clear own7 own kr
      go_wp2_with (fail)
      go_ret
      exact ⟨_, rfl, by rw [HF.out]; exact own_base HR.out.1 H2.out.2.size, H2.out.2.trans' HR.out.2⟩
    | cons x b =>
      have hkl : ks.length = a.length + (b.length + 1) := by rw [hab]; simp
      obtain ⟨g, c', e, hbg, hcc⟩ := row_cells1 own (by omega)
      cases e
      have hx := hcc a.length (by omega)
      rw [List.getElem?_map, show ks[a.length]? = some x by rw [hab, List.getElem?_append_right (Nat.le_refl _), Nat.sub_self]; rfl] at hx
      simp only [Option.map_some] at hx
      have hltI : (a.length : Int) < ks.length := by omega
      have hkI : (ks.length : Int) ≤ 100000 := by omega
      have hlt : a.length < ks.length := by omega
      obtain ⟨L, hL⟩ : ∃ L, (a.filter fun k => decide (fr ≤ k)).take most.toNat = L := ⟨_, rfl⟩
      have HST := Lib.hid (takeF_snoc a x (fun k => decide (fr ≤ k)) most.toNat)
      rw [hL] at own7 HST ⊢
      have hLl : L.length ≤ 100000 := by
        rw [← hL, List.length_take]
        have := List.length_filter_le (fun k => decide (fr ≤ k)) a
        omega
      have HAB := Lib.hid (And.intro hab hL)
      have HR := Lib.hid (And.intro own7 (And.intro own kr))
      clear hab hL own7 own kr hcc hkl
      by_cases c1 : fr ≤ x
      · by_cases c2 : (L.length : Int) < most
        · go_wp2_with (first
            | (at_builtin
               refine wpList_append_lies _ rfl (.tmp 30) (.tmp 32) _ rfl w2.heap.size 3 i0 (.int .i64 0) 1 8 Tryz.underlying65 hi hz0 hz1 hz2 rfl (by decide) (.slice p7 L.length c7) L.length (L.map fun k => I k) rfl (own_kept HR.out.1 ((Kept.refl [] wr).alloc _) (by simp)) ⟨wr.heap.size, 0, none⟩ 1 1 [I x] rfl rfl (World.news_of_block (heap_new wr _)) (by intro u hu; simp at hu; subst hu; rfl) (by decide) (by unfold maxLen; omega) (by omega) (by rw [World.size_alloc]; have := HR.out.2.2.size; omega) _ rfl ?_
               intro g1 cap wa own1 gr1 hat hlt2
               have HA := Lib.hid (And.intro own1 gr1)
               clear own1 gr1 hat hlt2))
          go_roundw
          case rel =>
            obtain ⟨own1, gr1⟩ := HA.out
            refine ⟨a ++ [x], b, by rw [HAB.out.1]; simp, by simp, ?_, ?_, ?_⟩
            · rw [HST.out, if_pos ⟨by simpa using c1, by omega⟩, List.length_append, List.map_append]
              exact own1
            · refine own_kept (own_kept HR.out.2.1 ((Kept.refl [] wr).alloc _) (by simp)) (kept_grown gr1) (fun q hq hm => ?_)
              have := HG.out q hq
              have := (own_lt HR.out.1 q (by simpa using hm)).1
              omega
            · exact (HR.out.2.2.alloc _).new (kept_grown gr1) (fun q hq => (own_lt HR.out.1 q (by simpa using hq)).1)
          case measure => simp [intOf]; omega
        · go_wp2_with (fail)
          go_roundw
          case rel =>
            refine ⟨a ++ [x], b, by rw [HAB.out.1]; simp, by simp, ?_, HR.out.2.1, HR.out.2.2⟩
            rw [HST.out, if_neg (by rintro ⟨_, h⟩; omega)]
            exact HR.out.1
          case measure => simp [intOf]; omega
      · go_wp2_with (fail)
        go_roundw
        case rel =>
          refine ⟨a ++ [x], b, by rw [HAB.out.1]; simp, by simp, ?_, HR.out.2.1, HR.out.2.2⟩
          rw [HST.out, if_neg (by rintro ⟨h, _⟩; simp at h; omega)]
          exact HR.out.1
        case measure => simp [intOf]; omega
/-! ### Get, Weight, Dead -/
def valF (M : OM) (k : Int) : List UInt8 := ((findA M k).map (·.val)).getD []
theorem oget_any (w : World) (sb pb lb mb kb : Nat) (x : Int) (M : OM) (C : List (Int × Nat)) (h : CoreAt w sb pb lb mb kb x M C) (k : Int) (hk : I64 k) :
    Calls Tryz.prog 33 #[Ptr sb, I k] w fun e w' => e = .returned (.tuple #[S (valF M k), .bool (findA M k).isSome]) ∧ Kept [] w w' := by
  obtain ⟨c0, c1, c2, c3, c4, c5⟩ := h.cells
  obtain ⟨ov, os, op, is, hov, hlook⟩ : ∃ (ov : List UInt8) (os op : Nat) (is : Bool), (valF M k = ov ∧ (findA M k).isSome = is) ∧ (Instr.lookup 58 (.map (some mb)) (I k) true).run Tryz.prog w = .ok (.tuple #[.agg #[S ov, I os, I op], .bool is]) w := by
    unfold valF
    cases hfo : findA M k with
    | none => exact ⟨[], 0, 0, false, ⟨rfl, rfl⟩, h.find_none hk hfo⟩
    | some ob => exact ⟨ob.val, ob.seg, ob.pos, true, ⟨rfl, rfl⟩, h.find_some hk hfo⟩
  rw [hov.1, hov.2]
  have hnw := heap_new w (Obj.cells #[S [], I 0, I 0] 88)
  have hf2 := free_at hnw
  have z0 := cell_at hnw 0
  have z1 := cell_at hnw 1
  have z2 := cell_at hnw 2
  simp only [List.getElem?_toArray, List.getElem?_cons_zero, List.getElem?_cons_succ] at z0 z1 z2
  have HN := Lib.hid hnw
  clear h hk hov hnw c0 c1 c3 c4 c5
  go_enter Tryz.func33, Tryz.ntmps33
  go_wp2_with (fail)
  have hst := store3 HN.out (S ov) (I os) (I op)
  have q0 := cell_at hst 0
  simp only [List.getElem?_toArray, List.getElem?_cons_zero, List.getElem?_cons_succ] at q0
  go_wp2_with (fail)
  go_ret2
  exact ⟨rfl, (Kept.refl [] w).alloc _⟩
theorem oweight_any (w : World) (sb pb lb mb kb : Nat) (x : Int) (M : OM) (C : List (Int × Nat)) (h : CoreAt w sb pb lb mb kb x M C) :
    Calls Tryz.prog 31 #[Ptr sb] w fun e w' => e = .returned (I x) ∧ w' = w := by
  obtain ⟨c0, c1, c2, c3, c4, c5⟩ := h.cells
  clear h
  go_enter Tryz.func31, Tryz.ntmps31
  go_wp2_with (fail)
  go_ret
  exact ⟨rfl, rfl⟩
theorem odead_any (w : World) (sb pb lb mb kb : Nat) (x : Int) (M : OM) (C : List (Int × Nat)) (h : CoreAt w sb pb lb mb kb x M C) :
    Calls Tryz.prog 11 #[Ptr sb] w fun e w' => e = .returned (.bool false) ∧ w' = w := by
  obtain ⟨c0, c1, c2, c3, c4, c5⟩ := h.cells
  clear h
  go_enter Tryz.func11, Tryz.ntmps11
  go_wp2_with (fail)
  go_ret
  exact ⟨rfl, rfl⟩
end
section
set_option maxHeartbeats 8000000
set_option maxRecDepth 100000
/-! ### bytes.Repeat of one byte -/
theorem u8_size : (Tryz.prog.info? 5).map (·.size) = some 1 := by kernel_rfl
abbrev FB (k : Nat) : List Value := Lib.byteCells (List.replicate k 255)
def FilAt (w : World) (g k S : Nat) : Prop := ∃ X : List Value, w.heap[g]? = some (.cells (FB k ++ X).toArray 5 (0, 0)) ∧ k + X.length = S
theorem fb_len (k : Nat) : (FB k).length = k := by simp [FB, Lib.byteCells]
theorem fb_at (k i : Nat) (h : i < k) : (FB k)[i]? = some (B 255) := by
  rw [FB, Lib.byteCells, List.getElem?_map, List.getElem?_replicate, if_pos h]; rfl
theorem fb_one (k : Nat) : ∀ v ∈ FB k, v.oneCell' = true := by
  intro v hv
  obtain ⟨i, hi, rfl⟩ := List.mem_iff_getElem.1 hv
  rw [fb_len] at hi
  have := fb_at k i hi
  rw [List.getElem?_eq_getElem (by rw [fb_len]; exact hi), Option.some.injEq] at this
  rw [this]; rfl
theorem fb_add (k m : Nat) : FB (k + m) = FB k ++ FB m := by
  simp [FB, Lib.byteCells, ← List.replicate_append_replicate]
theorem fb_src (r j : Nat) (v : Value) (h : (FB r)[j]? = some v) : j < r ∧ B 255 = v := by
  have hj : j < r := by
    have := (List.getElem?_eq_some_iff.1 h).1
    rw [fb_len] at this; exact this
  rw [fb_at r j hj] at h
  exact ⟨hj, by cases h; rfl⟩
theorem fil_cell {w : World} {g k S : Nat} (h : FilAt w g k S) (i : Nat) (hi : i < k) : w.cell? ⟨g, i, none⟩ = some (B 255) := by
  obtain ⟨X, hb, _⟩ := h
  rw [cell_at hb, List.getElem?_toArray, List.getElem?_append_left (by rw [fb_len]; exact hi)]
  exact fb_at k i hi
theorem fil_splice (k m : Nat) (X : List Value) (h : m ≤ X.length) : splice (FB k ++ X) k (FB m) = FB (k + m) ++ X.drop m := by
  unfold splice
  rw [List.take_left' (fb_len k), fb_len, List.drop_append, fb_len, List.drop_of_length_le (by rw [fb_len]; omega), List.nil_append, show k + m - k = m by omega, fb_add, List.append_assoc]
theorem fil_row {w : World} {g k S : Nat} (h : FilAt w g k S) : RowX w g (List.replicate k 255) := by
  obtain ⟨X, hb, _⟩ := h
  exact ⟨X.toArray, by rw [hb]; simp [FB]⟩
set_option maxHeartbeats 4000000 in
theorem repeat_any (w : World) (gs c N : Nat) (h1 : 1 ≤ N) (hN : N ≤ 131072) (hc : w.cell? ⟨gs, 0, none⟩ = some (B 255)) :
    Calls Tryz.prog 40 #[.slice (some ⟨gs, 0, none⟩) 1 c, I N] w fun e w' => ∃ g, e = .returned (.slice (some ⟨g, 0, none⟩) N N) ∧ w.heap.size ≤ g ∧ RowX w' g (List.replicate N 255) ∧ Kept [] w w' := by
  have HMul := Tryz.bits_Mul 1 N (by omega) (by omega) w
  rw [show 1 * N / 18446744073709551616 = 0 by omega, show 1 * N % 18446744073709551616 = N by omega] at HMul
  replace HMul : Hid (Calls Tryz.prog 67 #[.int .u64 1, .int .u64 N] w fun e w' => e = .returned (.tuple #[.int .u64 0, .int .u64 N]) ∧ w' = w) := Lib.hid HMul
  obtain ⟨cs, hrunM, hle, _⟩ := Lib.run_makeNoZero (P := Tryz.prog) w #[3] 64 5 Tryz.underlying64 N (by omega)
  have hcall : (callFunc 68 #[I N]).run Tryz.prog w = .ok (.value (.slice (some ⟨w.heap.size, 0, none⟩) N cs.size)) ((w.alloc (.cells cs 5)).drewN 2) := by
    rw [run_callFunc_extern Tryz.func68 (by kernel_rfl) (by kernel_rfl) (by kernel_rfl) (e := Extern.BytealgMakeNoZero.makeNoZero #[3] #[64]) (by kernel_rfl), hrunM]
    rfl
  clear hrunM
  have hgs := World.block_lt_of_cell? w _ hc
  have kN : Kept [] w ((w.alloc (.cells cs 5)).drewN 2) := ((Kept.refl [] w).alloc _).drewN 2
  have hb0 : ((w.alloc (.cells cs 5)).drewN 2).heap[w.heap.size]? = some (.cells cs.toList.toArray 5 (0, 0)) := by
    have := heap_new w (.cells cs 5)
    simpa using this
  have HB0 := Lib.hid (And.intro hb0 (And.intro kN hle))
  have hc1 := kN.cellOf hc
  have hNI : (1 : Int) ≤ N := by omega
  have hNI2 : (N : Int) ≤ 131072 := by omega
  have hleI : (N : Int) ≤ (cs.size : Int) := by omega
  clear kN hb0
  go_enter Tryz.func40, Tryz.ntmps40
  go_wp2_with (fail)
  refine HMul.out.mono ?_
  rintro e w1 ⟨rfl, rfl⟩
  have hcase : (∃ _ : (N : Int) ≤ 8192, N = min N 8192) ∨ (∃ _ : (8192 : Int) < N, 8192 = min N 8192) := by
    rcases Nat.le_total N 8192 with h | h
    · exact .inl ⟨by omega, by omega⟩
    · by_cases e : N = 8192
      · exact .inl ⟨by omega, by omega⟩
      · exact .inr ⟨by omega, by omega⟩
  rcases hcase with ⟨hbI, hm⟩ | ⟨hbI, hm⟩
  all_goals
    obtain ⟨m, hmm⟩ : ∃ m : Nat, min N 8192 = m := ⟨_, rfl⟩
    rw [hmm] at hm
    have HM := Lib.hid hm
    clear hm
    go_upto_region 17 with (fail)
    have HC1 := Lib.hid hc1
    iterate 7 go_step
    refine wpList_copy_splice rfl (.tmp 58) (.tmp 59) 64 64 rfl 5 Tryz.underlying64 u8_size (some ⟨w1.heap.size, 0, none⟩) (some ⟨gs, 0, none⟩) N N 1 c rfl rfl w1.heap.size 0 cs.toList 5 HB0.out.1 (FB 1) (by show 1 = min 1 N; omega) (fun _ => ⟨rfl, _, rfl, fun j v hv => by rcases j with _ | j; (· cases hv; exact HC1.out); (· cases hv)⟩) (by rw [fb_len, Array.length_toList]; have := HB0.out.2.2; omega) (fb_one 1) w1.heap.size w1 HB0.out.2.1.below (Nat.le_refl _) ?_
    intro w2 hg2 hb2
    have HX2 : Hid (FilAt w2 w1.heap.size 1 cs.size ∧ Kept [] w1 w2) := Lib.hid ⟨⟨cs.toList.drop 1, by have := hg2.out; rw [show splice cs.toList 0 (FB 1) = FB 1 ++ cs.toList.drop 1 from by unfold splice; rw [fb_len, List.take_zero, List.nil_append]] at this; exact this, by have := HB0.out.2.2; rw [List.length_drop, Array.length_toList]; omega⟩, Kept.of_below hb2 (Nat.le_refl _)⟩
    have HB : Hid (N ≤ cs.size) := Lib.hid HB0.out.2.2
    clear hg2 hb2 hc1 hc HC1 HMul hcall HB0
    go_wp2_with (fail)
    go_loopw [10, 11] (fun v10 v11 wr => ∃ k : Nat, 1 ≤ k ∧ k ≤ N ∧ v10 = I k ∧ FilAt wr w1.heap.size k cs.size ∧ Kept [] w1 wr) (fun v10 _ _ => N - (intOf v10).toNat)
    case atStart => exact ⟨1, Nat.le_refl _, h1, rfl, HX2.out⟩
    case round =>
      obtain ⟨k, hk1, hkN, rfl, hfil, kr⟩ := hrel
      by_cases hlt : k < N
      · have hltI : (k : Int) < N := by omega
        have hkI : (k : Int) ≤ N := by omega
        obtain ⟨q, hq⟩ : ∃ q, min k m = q := ⟨_, rfl⟩
        have hqI : (q : Int) ≤ N := by omega
        first
          | (have hmn : min (k : Int) (N : Int) = (q : Int) := by have := HM.out; omega)
          | (have hmn : min (k : Int) 8192 = (q : Int) := by have := HM.out; omega)
        obtain ⟨r, hr⟩ : ∃ r, min q (N - k) = r := ⟨_, rfl⟩
        have hqk : q ≤ k := by omega
        have hq1 : 1 ≤ q := by omega
        have hr1 : 1 ≤ r := by omega
        have hrk : k + r ≤ N := by omega
        have hrq : r ≤ q := by omega
        have hcl : ∀ j, j < k → wr.cell? ⟨w1.heap.size, j, none⟩ = some (B 255) := fun j hj => fil_cell hfil j hj
        obtain ⟨X, hb, hX⟩ := hfil
        have HF := Lib.hid (And.intro hb (And.intro hX (And.intro kr (And.intro hcl (And.intro hq (And.intro hr hrk))))))
        have hrI : ((k : Int) + r) ≤ 131072 := by omega
        have hwr : IntKind.i64.wrap ((k : Int) + (r : Int)) = ((k + r : Nat) : Int) := by rw [IntKind.wrap_i64]; omega
        have HR1 : Hid (1 ≤ r) := Lib.hid hr1
        clear hb hX kr hcl hq hr hr1 hrk hk1 hq1
        go_wp2_with (fail)
        go_region_law (refine step_copy_splice rfl (.tmp 70) (.tmp 73) 64 64 rfl 5 Tryz.underlying64 u8_size (some ⟨w1.heap.size, k, none⟩) (some ⟨w1.heap.size, 0, none⟩) (N - k) (N - k) q N (by have hne : ¬ N = k := (by omega); simp [Act.eval, Act.put, hne]) (by simp [Act.eval, Act.put]) w1.heap.size k (FB k ++ X) 5 HF.out.1 (FB r) (by rw [fb_len]; exact HF.out.2.2.2.2.2.1.symm) (fun _ => ⟨rfl, _, rfl, fun j v hv => (fb_src r j v hv).2 ▸ (by have := HF.out.2.2.2.1 j (by have := (fb_src r j v hv).1; omega); by_cases h0 : j = 0; (· subst h0; simpa [Addr.add] using this); (· simpa [Addr.add, h0] using this))⟩) (by rw [List.length_append, fb_len, fb_len]; have := HF.out.2.1; have := HB.out; have := HF.out.2.2.2.2.2.2; omega) (fb_one r) w1.heap.size w1 HF.out.2.2.1.drew.below (Nat.le_refl _) ?_; intro w4 hg4 hb4)
        all_goals
          go_wp2
          rw [fb_len, hwr]
          obtain ⟨hb, hX, kr, hcl, hq, hr, hrk⟩ := HF.out
          have hr1 := HR1.out
          refine ⟨⟨k + r, by omega, hrk, rfl, ⟨X.drop r, ?_, ?_⟩, Kept.of_below hb4 (Nat.le_refl _)⟩, by simp [intOf]; omega⟩
          · have h4 := hg4.out
            rw [fil_splice k r X (by have := HB.out; omega)] at h4
            exact h4
          · rw [List.length_drop]; have := HB.out; omega
      · have hkN2 : k = N := by omega
        subst hkN2
        have HF := Lib.hid (And.intro hfil kr)
        clear hfil kr
        go_wp2_with (fail)
        go_ret
        exact ⟨_, rfl, Nat.le_refl _, fil_row HF.out.1, HF.out.2⟩
end
section
set_option maxHeartbeats 8000000
set_option maxRecDepth 100000
/-! ### A clean flash -/
def flNew (n : Nat) : Fl := ⟨List.replicate (512 * n) 255, List.replicate n 0, 0, 0, 0, 0, false⟩
theorem madeI (n : Nat) : madeCells #[I 0] n = ((List.replicate n (0 : Int)).map fun n => I n).toArray := by
  apply Array.ext
  · simp [madeCells]
  · intro i h1 h2
    simp [madeCells, Nat.mod_one]
set_option maxHeartbeats 1000000 in
theorem fof_any (w : World) (g n : Nat) (h1 : 1 ≤ n) (h2 : n ≤ 256) (hr : RowX w g (List.replicate (512 * n) 255)) :
    Calls Tryz.prog 39 #[.slice (some ⟨g, 0, none⟩) (512 * n) (512 * n)] w fun e w' => ∃ fb cb, e = .returned (.tuple #[Ptr fb, I 0]) ∧ w.heap.size ≤ fb ∧ w.heap.size ≤ cb ∧ FlAt w' fb g cb (flNew n) ∧ Kept [] w w' := by
  have HR := Lib.hid hr
  clear hr
  obtain ⟨N, hN⟩ : ∃ N, 512 * n = N := ⟨_, rfl⟩
  rw [hN] at HR ⊢
  have hd : (N : Int) / 512 = n := by omega
  have hm : (N : Int) % 512 = 0 := by omega
  have hNI : (N : Int) ≤ 131072 := by omega
  have hnI : (1 : Int) ≤ n := by omega
  have hnI2 : (n : Int) ≤ 256 := by omega
  have HN := Lib.hid hN
  have hmk := run_make_row' (P := Tryz.prog) 65 3 (.int .i64 0) 8 Tryz.underlying65 int_info rfl .i64 .i64 n (by omega) (by omega) w
  clear hN
  go_enter Tryz.func39, Tryz.ntmps39
  go_wp2_with (fail)
  go_ret2
  have k1 : Kept [] w (w.alloc (.cells (madeCells #[I 0] n) 3)) := (Kept.refl [] w).alloc _
  have b1 := heap_new w (.cells (madeCells #[I 0] n) 3)
  have hgl : g < w.heap.size := HR.out.lt
  have hN := HN.out
  refine ⟨_, _, rfl, by omega, Nat.le_refl _, ⟨?_, ?_, ?_, by omega, by omega, by omega, by simp [flNew], by simp [flNew]; omega, by simp [flNew]; omega⟩, k1.alloc _⟩
  · have := heap_new (w.alloc (.cells (madeCells #[I 0] n) 3)) (Obj.cells #[.slice (some ⟨g, 0, none⟩) N N, .slice (some ⟨w.heap.size, 0, none⟩) n n, I 0, I 0, I 0, B 0, .bool false] 67)
    rw [World.size_alloc] at this
    refine this.trans ?_
    simp [flNew, Fl.arr, hN]
  · show RowX _ g (List.replicate (512 * n) 255)
    rw [hN]
    exact HR.out.kept (k1.alloc _) (by simp)
  · show Nums _ w.heap.size (List.replicate n 0)
    unfold Nums
    rw [← madeI]
    exact ((Kept.refl [] (w.alloc (.cells (madeCells #[I 0] n) 3))).alloc _).at b1 (by simp)
set_option maxHeartbeats 1000000 in
theorem fnew_any (w : World) (n : Nat) (h1 : 1 ≤ n) (h2 : n ≤ 256) :
    Calls Tryz.prog 15 #[I n] w fun e w' => ∃ fb g cb, e = .returned (.tuple #[Ptr fb, I 0]) ∧ w.heap.size ≤ fb ∧ w.heap.size ≤ g ∧ w.heap.size ≤ cb ∧ FlAt w' fb g cb (flNew n) ∧ Kept [] w w' := by
  have hnI : (1 : Int) ≤ n := by omega
  have hnI2 : (n : Int) ≤ 256 := by omega
  obtain ⟨W, hW⟩ : ∃ W, w.alloc (.cells #[B 255] 5) = W := ⟨_, rfl⟩
  have hk : Kept [] w W := by rw [← hW]; exact (Kept.refl [] w).alloc _
  have hc : W.cell? ⟨w.heap.size, 0, none⟩ = some (B 255) := by rw [← hW]; exact cell_at (heap_new w _) 0
  have HRP := Lib.hid (repeat_any W w.heap.size 1 (512 * n) (by omega) (by omega) hc)
  obtain ⟨N, hN⟩ : ∃ N, 512 * n = N := ⟨_, rfl⟩
  have HOF := Lib.hid (fun W' g (h : RowX W' g (List.replicate N 255)) => by have := fof_any W' g n h1 h2 (by rw [hN]; exact h); rw [hN] at this; exact this)
  rw [hN] at HRP
  have hmul : (n : Int) * 512 = N := by omega
  have HK := Lib.hid hk
  have hNI : (N : Int) ≤ 131072 := by omega
  clear hk hc hN
  go_enter Tryz.func15, Tryz.ntmps15
  go_wp2_with (fail)
  rw [show w.alloc (.cells #[.int .u8 255] 5) = W from hW]
  refine HRP.out.mono ?_
  rintro e w2 ⟨g, rfl, hg, hr, k2⟩
  have HR2 := Lib.hid (And.intro hr (And.intro hg k2))
  clear hr hg k2 hW
  go_wp2_with (fail)
  refine (HOF.out w2 g HR2.out.1).mono ?_
  rintro e w3 ⟨fb, cb, rfl, h1, h2, hf, k3⟩
  have H3 := Lib.hid (And.intro hf (And.intro k3 (And.intro h1 h2)))
  clear hf k3 h1 h2
  go_wp2_with (fail)
  go_ret2
  have hs1 := HK.out.size
  have hs2 := HR2.out.2.2.size
  exact ⟨fb, g, cb, rfl, by have := H3.out.2.2.1; omega, by have := HR2.out.2.1; omega, by have := H3.out.2.2.2; omega, H3.out.1, (HK.out.trans' HR2.out.2.2).trans' H3.out.2.1⟩
set_option maxHeartbeats 1000000 in
theorem pnew_any (w : World) (fb bb cb fs n : Nat) (f : Fl) (h : FlAt w fb bb cb f) (h1 : 1 ≤ n) (h2 : fs + n ≤ f.cs.length) :
    Calls Tryz.prog 41 #[Ptr fb, .agg #[I fs, I n]] w fun e w' => ∃ pb, e = .returned (.tuple #[Ptr pb, I 0]) ∧ w.heap.size ≤ pb ∧ PtAt w' pb fb bb cb fs n f ∧ Kept [] w w' := by
  have hfew := h.few
  obtain ⟨W, hW⟩ : ∃ W, w.alloc (.cells #[I fs, I n] 82) = W := ⟨_, rfl⟩
  have hk : Kept [] w W := by rw [← hW]; exact (Kept.refl [] w).alloc _
  have HB := Lib.hid (fun W' (k : Kept [] w W') => blocks_any W' fb bb cb f (h.kept k (by simp) (by simp) (by simp)))
  have HH := Lib.hid (And.intro h hk)
  obtain ⟨L, hL⟩ : ∃ L, f.cs.length = L := ⟨_, rfl⟩
  rw [hL] at HB
  have i1 : (0 : Int) ≤ fs := by omega
  have i2 : (1 : Int) ≤ n := by omega
  have i3 : (fs : Int) ≤ L := by omega
  have i4 : (n : Int) ≤ L - fs := by omega
  have i5 : (L : Int) ≤ 256 := by omega
  have HL := Lib.hid (And.intro h1 h2)
  have hb := heap_new w (.cells #[I fs, I n] 82)
  rw [hW] at hb
  have c0 := cell_at hb 0
  have c1 := cell_at hb 1
  simp only [List.getElem?_toArray, List.getElem?_cons_zero, List.getElem?_cons_succ] at c0 c1
  have HQ := Lib.hid (HB.out W hk)
  clear h hk h1 h2 hL hfew hb
  go_enter Tryz.func41, Tryz.ntmps41
  have hd1 : decide ((fs : Int) < 0) = false := decide_eq_false (by omega)
  have hd2 : decide ((n : Int) < 1) = false := decide_eq_false (by omega)
  have hd3 : decide (L < fs) = false := decide_eq_false (by omega)
  have hd4 : decide ((L : Int) - fs < n) = false := decide_eq_false (by omega)
  have hwr : IntKind.i64.wrap ((L : Int) - fs) = (L : Int) - fs := by rw [IntKind.wrap_i64]; omega
  go_upto_region 1 with (fail)
  go_quiet ((go_at_call 42; exact Calls.quiet_of_same (HB.out _ (HH.out.2.drewN _))))
  go_wp2_with (fail)
  go_ret2
  obtain ⟨hf, hk⟩ := HH.out
  have kk : Kept [] w ((W.drewN nq).alloc (Obj.cells #[Ptr fb, I fs, I n] 119)) := (hk.drewN nq).alloc _
  have h3 := hf.lt
  have h4 := hf.row.lt
  have h5 := lt_of_block hf.cnt
  have h6 := hk.size
  refine ⟨_, rfl, h6, ⟨?_, hf.kept kk (by simp) (by simp) (by simp), HL.out.2, HL.out.1, by omega, by omega, by omega⟩, kk⟩
  exact heap_new (W.drewN nq) _
/-- A part of a clean flash: all but the first block. -/
def ptNew (n : Nat) : Fl := flNew (n + 1)
set_option maxHeartbeats 1000000 in
theorem over_any (w : World) (fb bb cb n : Nat) (f : Fl) (h : FlAt w fb bb cb f) (h1 : 1 ≤ n) (h2 : f.cs.length = n + 1) :
    Calls Tryz.prog 17 #[Ptr fb] w fun e w' => ∃ pb, e = .returned (Ptr pb) ∧ w.heap.size ≤ pb ∧ PtAt w' pb fb bb cb 1 n f ∧ Kept [] w w' := by
  have HB := Lib.hid (blocks_any w fb bb cb f h)
  have HP := Lib.hid (pnew_any w fb bb cb 1 n f h h1 (by omega))
  have hfew := h.few
  rw [h2] at HB hfew
  have hnI : (n : Int) ≤ 255 := by omega
  have hwr : IntKind.i64.wrap (((n + 1 : Nat) : Int) - 1) = (n : Int) := by rw [IntKind.wrap_i64]; omega
  clear h h1 h2 hfew
  obtain ⟨N, hN⟩ : ∃ N : Nat, n + 1 = N := ⟨_, rfl⟩
  rw [hN] at HB hwr
  clear hN
  go_enter Tryz.func17, Tryz.ntmps17
  go_wp2_with (fail)
  refine HB.out.mono ?_
  rintro e w1 ⟨rfl, rfl⟩
  go_wp2_with (fail)
  refine HP.out.mono ?_
  rintro e w2 ⟨pb, rfl, hpb, hpt, k2⟩
  have H2 := Lib.hid (And.intro hpb (And.intro hpt k2))
  clear hpb hpt k2
  go_wp2_with (fail)
  go_ret
  exact ⟨pb, rfl, H2.out⟩
/-- How many blocks. -/
def blkF (n : Int) : Nat := (max 8 (min n 20)).toNat
theorem blkF_bound (n : Int) : 8 ≤ blkF n ∧ blkF n ≤ 20 ∧ (blkF n : Int) = max 8 (min n 20) := by unfold blkF; omega
theorem lawblk_any (w : World) (n : Int) : Calls Tryz.prog 16 #[I n] w fun e w' => e = .returned (I (blkF n)) ∧ w' = w := by
  have h := (blkF_bound n).2.2
  have h2 : max (8 : Int) (min n 20) = (blkF n : Int) := h.symm
  obtain ⟨q, hq⟩ : ∃ q, blkF n = q := ⟨_, rfl⟩
  rw [hq] at h2 ⊢
  clear h hq
  go_enter Tryz.func16, Tryz.ntmps16
  go_wp2_with (fail)
  go_ret
  exact ⟨rfl, rfl⟩
/-! ### Format: an empty store -/
def St0 : St := ⟨0, [], [], []⟩
theorem st0_segs : St0.segs = [[]] := rfl
theorem inv0 {n : Nat} (hn : 1 ≤ n) : InvS n St0 where
  few := by simp [St0]; omega
  recs := by
    intro rs hrs
    rw [st0_segs, List.mem_singleton] at hrs
    subst hrs
    exact ⟨by simp [usedS], fun l hl => by cases hl⟩
  sorted := List.Pairwise.nil
  placed := fun k o h => by cases h
  rep := rfl
theorem cs0 {n : Nat} (hn : 1 ≤ n) (f : Fl) (h : f.cs = List.replicate (n + 1) 0) : CsOK n f 0 := by
  have hz : ∀ k, numAt f.cs k = 0 := fun k => by
    rw [h]; unfold numAt
    rw [List.getD_eq_getElem?_getD, List.getElem?_replicate]
    split <;> rfl
  refine ⟨fun k hk => ?_, hz 0, by rw [h, List.length_replicate]⟩
  rw [hz, Nat.div_eq_of_lt (by omega)]; rfl
theorem fl0 {n : Nat} (f : Fl) (hn : 1 ≤ n) (hl : 512 * (1 + n) ≤ f.bs.length) (hc : ∀ k, k < n → blockOf f.bs (1 + k) = fullB) : FlOK n (madeF f 1 0 1) St0 := by
  intro j hj
  rw [st0_segs]
  show blockOf _ (1 + (0 + j) % n) = _
  rw [Nat.zero_add, Nat.mod_eq_of_lt hj]
  cases j with
  | zero => exact seg_made f 1 0 1 (by omega) (hc 0 hj)
  | succ j =>
    show _ = fullB
    rw [seg_made_other f 1 0 1 _ (by omega) (by omega)]
    exact hc _ hj
theorem made_live (f : Fl) (fs k num : Nat) : (madeF f fs k num).dead = f.dead ∧ (madeF f fs k num).armed = f.armed ∧ (madeF f fs k num).cs = f.cs := ⟨rfl, rfl, rfl⟩
theorem ct0 : CtOK St0 [] := by
  refine ⟨fun j rs hj => ?_, fun k hk => rfl⟩
  rw [st0_segs] at hj
  cases j with
  | zero => cases hj; rfl
  | succ j => cases hj
/-- An empty store. -/
def SNew (w : World) (pb fb bb cb n : Nat) (f : Fl) (e : Ending) (w' : World) : Prop :=
  ∃ sb lb mb kb v, e = .returned (.tuple #[Ptr sb, I 0]) ∧ SAt w' sb lb pb fb bb cb mb kb n v St0 f ∧ w.heap.size ≤ sb ∧ w.heap.size ≤ lb ∧ w.heap.size ≤ mb ∧ w.heap.size ≤ kb ∧ (∀ q, v.ownBlock = some q → w.heap.size ≤ q) ∧ Kept [fb, bb, cb] w w'
set_option maxHeartbeats 2000000 in
theorem sformat_any (w : World) (pb fb bb cb n : Nat) (f : Fl) (h : PtAt w pb fb bb cb 1 n f) (hd : f.dead = false) (ha : f.armed = 0) (h8 : 8 ≤ n) (hc : ∀ k, k < n → blockOf f.bs (1 + k) = fullB) :
    Calls Tryz.prog 18 #[Ptr pb] w (SNew w pb fb bb cb n (madeF f 1 0 1)) := by
  have HS := Lib.hid (size_any w pb fb bb cb 1 n f h)
  have HL := Lib.hid (lformat_any w pb fb bb cb 1 n f h hd ha (by omega) hc)
  have hb := h.bound
  obtain ⟨N, hN⟩ : ∃ N : Nat, n * 512 = N := ⟨_, rfl⟩
  rw [hN] at HS
  have hNI : ¬ (N : Int) < 4096 := by omega
  have HH := Lib.hid (And.intro h (And.intro hd (And.intro ha (And.intro h8 hc))))
  clear h hd ha h8 hc hb hN
  go_enter Tryz.func18, Tryz.ntmps18
  go_wp2_with (fail)
  refine HS.out.mono ?_
  rintro e w1 ⟨rfl, rfl⟩
  go_wp2_with (fail)
  refine HL.out.mono ?_
  rintro e w2 ⟨lb, v, hlb, rfl, hlg, hv, k2⟩
  have H2 := Lib.hid (And.intro hlb (And.intro hlg (And.intro hv k2)))
  clear hlb hlg hv k2
  have m1 : (Instr.makeMap 58 none).run Tryz.prog w2 = .ok (.map (some w2.heap.size)) (w2.alloc (.map #[] 0)) := rfl
  have m2 : (Instr.makeMap 59 none).run Tryz.prog (w2.alloc (.map #[] 0)) = .ok (.map (some (w2.heap.size + 1))) ((w2.alloc (.map #[] 0)).alloc (.map #[] 0)) := by rw [← World.size_alloc]; rfl
  go_wp2_with (fail)
  go_ret2
  obtain ⟨hlb, hlg, hv, k2⟩ := H2.out
  obtain ⟨h, hd, ha, h8, hc⟩ := HH.out
  obtain ⟨W1, hW1⟩ : ∃ W1, w2.alloc (.map #[] 0) = W1 := ⟨_, rfl⟩
  have s1 : W1.heap.size = w2.heap.size + 1 := by rw [← hW1, World.size_alloc]
  have o1 : ObAt W1 w2.heap.size [] := by rw [← hW1]; exact amap_made w2
  have kA : Kept [] w2 W1 := by rw [← hW1]; exact (Kept.refl [] w2).alloc _
  obtain ⟨W2, hW2⟩ : ∃ W2, W1.alloc (.map #[] 0) = W2 := ⟨_, rfl⟩
  have s2 : W2.heap.size = w2.heap.size + 2 := by rw [← hW2, World.size_alloc, s1]
  have o2 : CtAt W2 (w2.heap.size + 1) [] := by rw [← hW2, ← s1]; exact amap_made W1
  have kB : Kept [] W1 W2 := by rw [← hW2]; exact (Kept.refl [] W1).alloc _
  obtain ⟨W3, hW3⟩ : ∃ W3, W2.alloc (.cells #[Ptr pb, Ptr lb, .map (some w2.heap.size), .map (some (w2.heap.size + 1)), I 0, .bool false] 61) = W3 := ⟨_, rfl⟩
  have hb3 : W3.heap[w2.heap.size + 2]? = some (.cells #[Ptr pb, Ptr lb, .map (some w2.heap.size), .map (some (w2.heap.size + 1)), I 0, .bool false] 61 (0, 0)) := by rw [← hW3, ← s2]; exact heap_new W2 _
  have kC : Kept [] W2 W3 := by rw [← hW3]; exact (Kept.refl [] W2).alloc _
  have k3 : Kept [] w2 W3 := (kA.trans' kB).trans' kC
  have l1 := hlg.lt
  have l2 := hlg.n1
  have l3 := hlg.n2
  have l4 := hlg.n3
  have l5 := hlg.n4
  have l6 := k2.size
  have l7 := h.bound
  rw [hW1, hW2, hW3]
  refine ⟨_, lb, w2.heap.size, w2.heap.size + 1, v, rfl, ⟨?_, ⟨[], ⟨hb3, o1.same (kB.trans' kC), o2.same kC, by omega, by omega, by omega⟩, ct0⟩, fl0 f (by omega) (by omega) hc, inv0 (by omega), ⟨hd, ha⟩, ?_⟩, by omega, hlb, by omega, by omega, hv, k2.trans' (k3.mono (by simp))⟩
  · have e : sgs n St0.D St0.segs = [(0, 1)] := by
      show [(0 % n, 0 + 1)] = _
      rw [Nat.zero_mod]
    rw [e]
    exact hlg.same k3
  · intro x hx
    have hown : ∀ q, v.ownBlock = some q → q < w2.heap.size := fun q hq => (own_lt hlg.own q hq).2
    have hxs : w2.heap.size ≤ x := by simp at hx; omega
    refine ⟨fun hm => ?_, by omega⟩
    simp only [LgT, List.mem_append, Option.mem_toList] at hm
    rcases hm with hm | hm
    · simp at hm; omega
    · have := hown x (by simpa using hm); omega
/-! ### laid -/
def flLaid (n : Nat) : Fl := madeF (flNew (n + 1)) 1 0 1
theorem new_clean (n k : Nat) (h : k ≤ n) : blockOf (flNew (n + 1)).bs k = fullB := by
  show ((List.replicate (512 * (n + 1)) 255).drop (512 * k)).take 512 = List.replicate 512 255
  rw [List.drop_replicate, List.take_replicate]
  congr 1
  omega
theorem laid_good (n : Nat) (h : 8 ≤ n) : GoodS n St0 (flLaid n) :=
  ⟨h, by simp [St0]; omega, Nat.zero_le _, cs0 (by omega) _ rfl⟩
/-- What laid tells. -/
def LaidPost (n : Nat) (w : World) (e : Ending) (w' : World) : Prop :=
  ∃ fb bb cb pb sb lb mb kb rb v, e = .returned (.tuple #[Ptr fb, Ptr sb, Ptr rb]) ∧ SAt w' sb lb pb fb bb cb mb kb n v St0 (flLaid n) ∧ w'.heap[rb]? = some (.cells #[I n, .slice none 0 0] 42 (0, 0)) ∧ (∀ x, x ∈ StT sb lb fb bb cb mb kb v ∨ x = pb → w.heap.size ≤ x ∧ x < rb) ∧ Kept [] w w'
set_option maxHeartbeats 2000000 in
theorem laid15_any (w : World) (m : Int) : Calls Tryz.prog 4 #[I m] w (LaidPost (blkF m) w) := by
  obtain ⟨q1, q2, _⟩ := blkF_bound m
  have HB := Lib.hid (fun W => lawblk_any W m)
  obtain ⟨n, hn⟩ : ∃ n, blkF m = n := ⟨_, rfl⟩
  rw [hn] at HB q1 q2 ⊢
  have HN := Lib.hid (fnew_any w (n + 1) (by omega) (by omega))
  have HO := Lib.hid (fun W fb bb cb (h : FlAt W fb bb cb (flNew (n + 1))) => over_any W fb bb cb n _ h (by omega) (by simp [flNew]))
  have HF := Lib.hid (fun W pb fb bb cb (h : PtAt W pb fb bb cb 1 n (flNew (n + 1))) => sformat_any W pb fb bb cb n _ h rfl rfl q1 (fun k hk => new_clean n (1 + k) (by omega)))
  have HQ := Lib.hid (And.intro q1 q2)
  have hadd : IntKind.i64.wrap ((n : Int) + 1) = ((n + 1 : Nat) : Int) := by rw [IntKind.wrap_i64]; omega
  obtain ⟨N, hN⟩ : ∃ N, n + 1 = N := ⟨_, rfl⟩
  have hz : flLaid n = madeF (flNew N) 1 0 1 := by rw [← hN]; rfl
  have HZ := Lib.hid hz
  rw [hN] at HN HO HF hadd
  have hnI : (n : Int) ≤ 20 := by omega
  clear hN q1 q2 hz hn
  go_enter Tryz.func4, Tryz.ntmps4
  go_wp2_with (fail)
  refine (HB.out _).mono ?_
  rintro e w1 ⟨rfl, rfl⟩
  go_wp2_with (fail)
  refine HN.out.mono ?_
  rintro e w2 ⟨fb, bb, cb, rfl, g1, g2, g3, hf, k2⟩
  have H2 := Lib.hid (And.intro g1 (And.intro g2 (And.intro g3 (And.intro hf k2))))
  clear g1 g2 g3 hf k2
  go_wp2_with (fail)
  refine (HO.out _ _ _ _ H2.out.2.2.2.1).mono ?_
  rintro e w3 ⟨pb, rfl, g4, hp, k3⟩
  have H3 := Lib.hid (And.intro g4 (And.intro hp k3))
  clear g4 hp k3
  go_wp2_with (fail)
  refine (HF.out _ _ _ _ _ H3.out.2.1).mono ?_
  rintro e w4 ⟨sb, lb, mb, kb, v, rfl, hs, g5, g6, g7, g8, g9, k4⟩
  have H4 := Lib.hid (And.intro hs (And.intro g5 (And.intro g6 (And.intro g7 (And.intro g8 (And.intro g9 k4))))))
  clear hs g5 g6 g7 g8 g9 k4
  go_wp2_with (fail)
  refine (HB.out _).mono ?_
  rintro e w5 ⟨rfl, rfl⟩
  go_wp2_with (fail)
  go_ret3
  obtain ⟨g1, g2, g3, hf, k2⟩ := H2.out
  obtain ⟨g4, hp, k3⟩ := H3.out
  obtain ⟨hs, g5, g6, g7, g8, g9, k4⟩ := H4.out
  have z2 := k2.size
  have z3 := k3.size
  have z4 := k4.size
  have hk := (Kept.refl [] w5).alloc (.cells #[I n, .slice none 0 0] 42)
  rw [← HZ.out] at hs
  have hlt := stT_lt hs
  refine ⟨fb, bb, cb, pb, sb, lb, mb, kb, w5.heap.size, v, rfl, hs.same hk, heap_new w5 _, ?_, ((k2.trans' k3).new k4 (by intro x hx; simp at hx; omega)).trans' hk⟩
  intro x hx
  rcases hx with hx | rfl
  · refine ⟨?_, hlt.1 x hx⟩
    simp only [StT, LgT, List.mem_append, Option.mem_toList] at hx
    rcases hx with hx | hx | hx
    · simp at hx; omega
    · simp at hx; omega
    · have := g9 x (by simpa using hx); omega
  · exact ⟨by omega, hlt.2⟩
end

end Go.Proofs.YtncdfaocemfgfaaGreat
