/- Walks and lemmas on the program of this seat, used by its statements; each theorem bears its own conditions. -/
import Derived.Test.YtdkjlaldhohbmaaGreatPC
import Derived.Test.YtdkjlaldhohbmaaGreatShelf
import Derived.Handy
import Derived.OwnWalk
import Derived.Deep.AppendLies
import Derived.IntWalk
import Derived.Deep.CutRange
import Derived.Deep.RegionHeld3
import Derived.Deep.RegionLaw
import Derived.Shelf.SlIterI.Nil
import Derived.Shelf.SlGeneric
namespace Go.Proofs.YtdkjlaldhohbmaaGreat
open Go.RowKit
set_option linter.unusedVariables false
set_option linter.unusedSimpArgs false
set_option maxHeartbeats 8000000
set_option maxRecDepth 100000
/-! ### slices.Sorted(maps.Keys(m)), laid -/
open Go.Maps Go.Sort Go.Shelf
def keysL_ren : Go.Shelf.Ren := ⟨fun | 7 => 38 | 10 => 73 | n => n, fun | 23 => 66 | 26 => 3 | 3 => 77 | 28 => 72 | 0 => 0 | 27 => 71 | 33 => 110 | 4 => 4 | n => n, fun | n => n⟩
theorem keysL : SlLaysZI.n7 Tryz.prog keysL_ren := {
  mixed := by kernel_rfl
  f7 := ⟨ "maps.Keys[map[int]farrier/objs.object,int,farrier/objs.object]", by decide, Tryz.func38.trans (congrArg some (by kernel_rfl))⟩
  f10 := ⟨ "maps.Keys[map[int]farrier/objs.object,int,farrier/objs.object]$1", by decide, Tryz.func73.trans (congrArg some (by kernel_rfl))⟩
  t0 := Tryz.underlying0
  a0 := Tryz.isAgg0
  z0 := Tryz.sizeOf0
  v0 := Tryz.zeroValue0
  t4 := Tryz.underlying4
  a4 := Tryz.isAgg4
  z4 := Tryz.sizeOf4
  v4 := Tryz.zeroValue4
  t23 := Tryz.underlying66
  a23 := Tryz.isAgg66
  z23 := Tryz.sizeOf66
  v23 := Tryz.zeroValue66
  t26 := Tryz.underlying3
  a26 := Tryz.isAgg3
  z26 := Tryz.sizeOf3
  v26 := Tryz.zeroValue3
  t27 := Tryz.underlying71
  a27 := Tryz.isAgg71
  z27 := Tryz.sizeOf71
  v27 := Tryz.zeroValue71
  t28 := Tryz.underlying72
  a28 := Tryz.isAgg72
  z28 := Tryz.sizeOf72
  v28 := Tryz.zeroValue72
  t33 := Tryz.underlying110
  a33 := Tryz.isAgg110
  z33 := Tryz.sizeOf110
  v33 := Tryz.zeroValue110
 }
def sortedL_ren : Go.Shelf.Ren := ⟨fun | 6 => 37 | 8 => 71 | 9 => 72 | 11 => 99 | n => n, fun | 26 => 3 | 28 => 72 | 24 => 34 | 0 => 0 | 33 => 110 | n => n, fun | n => n⟩
theorem sortedL : SlLaysZI.n6 Tryz.prog sortedL_ren := {
  mixed := by kernel_rfl
  f6 := ⟨ "slices.Sorted[int]", by decide, Tryz.func37.trans (congrArg some (by kernel_rfl))⟩
  f8 := ⟨ "slices.Collect[int]", by decide, Tryz.func71.trans (congrArg some (by kernel_rfl))⟩
  f11 := ⟨ "slices.AppendSeq[[]int,int]", by decide, Tryz.func99.trans (congrArg some (by kernel_rfl))⟩
  t0 := Tryz.underlying0
  a0 := Tryz.isAgg0
  z0 := Tryz.sizeOf0
  v0 := Tryz.zeroValue0
  t24 := Tryz.underlying34
  a24 := Tryz.isAgg34
  z24 := Tryz.sizeOf34
  v24 := Tryz.zeroValue34
  t26 := Tryz.underlying3
  a26 := Tryz.isAgg3
  z26 := Tryz.sizeOf3
  v26 := Tryz.zeroValue3
  t28 := Tryz.underlying72
  a28 := Tryz.isAgg72
  z28 := Tryz.sizeOf72
  v28 := Tryz.zeroValue72
  i26 := by kernel_rfl
 }
/-! ### Keys -/
theorem sortsI (m : Nat) : AnyZI.SortsIn Tryz.prog sortedL_ren Fence.wide m :=
  ⟨fun blk off cap ss W hH hblk hsz => callsIn_wide.2 (Tryz.slices_Sort_int blk off cap ss W hH hblk hsz),
   fun p cap W => callsIn_wide.2 (Tryz.slices_Sort_int_none p cap W)⟩
theorem mkeys_any (mb : Option Nat) (w : World) :
    Calls Tryz.prog 38 #[.map mb] w fun e w' => e = .returned (.func (.func 73) #[] #[.pointer (some ⟨w.heap.size, 0, none⟩)]) ∧ w' = w.alloc (.cells #[.map mb] 66) :=
  callsIn_wide.1 (AnyZI.keys_in keysL Fence.wide 5 trivial rfl mb w)
set_option maxHeartbeats 1000000 in
theorem msorted_any (b nn : Nat) (D0 : DataW Unit) (R : Value → Option (DataW Unit × List MemPlace)) (w : World) (hown : w.ownsMap Tryz.prog 3 R b nn D0) (hmax : Maps.size D0 ≤ maxLen) (hbytes : Maps.size D0 * 8 ≤ 140737488355328) :
    Calls Tryz.prog 37 #[.func (.func 73) #[] #[.pointer (some ⟨w.heap.size, 0, none⟩)]] (w.alloc (.cells #[.map (some b)] 66)) fun e w' => ∃ (v : Value) (ss : List Int), e = .returned v ∧ ss.Perm (intKeys D0) ∧
      w'.ownsRow (w.alloc (.cells #[.map (some b)] 66)).heap.size 3 1 v ss.length ((ss.mergeSort (fun x y => decide (x ≤ y))).map encZ) ∧ (v = .slice none 0 0 ↔ ss = []) ∧ Below (w.alloc (.cells #[.map (some b)] 66)).heap.size (w.alloc (.cells #[.map (some b)] 66)) w' := by
  have hbl := hown.lt
  have hseq : SeqGives Fence.wide 2 Tryz.prog 73 #[.pointer (some ⟨w.heap.size, 0, none⟩)] encZ (fun ss => ss.Perm (intKeys D0)) (Maps.size D0) (w.alloc (.cells #[.map (some b)] 66)) :=
    AnyZI.keys_gives (ρ := keysL_ren) { keysL with } Fence.wide _ trivial rfl (by omega) w.heap.size b nn D0 _ (by simp) (by simp) (by
      obtain ⟨es, clock, hb, Ft, hs, hD⟩ := hown
      exact ⟨es, clock, (Below.heap_alloc _ _ b hbl).trans hb, Ft, hs, hD⟩)
  exact callsIn_wide.1 (AnyZI.sorted_in sortedL Fence.wide 5 trivial trivial trivial trivial rfl (by omega) (sortsI _) (enters_of Tryz.func72 (by kernel_rfl) rfl) 73 #[.pointer (some ⟨w.heap.size, 0, none⟩)] trivial (enters_of Tryz.func73 (by kernel_rfl) rfl) _ _ hmax hbytes _ hseq)
theorem mem_find {α : Type} {M : List (Int × α)} (k : Int) : k ∈ M.map (·.1) ↔ (findA M k).isSome = true := by
  induction M with
  | nil => simp [findA]
  | cons p t ih =>
    simp only [List.map_cons, List.mem_cons, findA]
    by_cases h : p.1 = k
    · simp [h]
    · simp only [h, if_false, ← ih]
      exact ⟨fun q => q.resolve_left (fun e => h e.symm), .inr⟩
theorem sortA {α : Type} {M : List (Int × α)} (h : SortedA M) : (M.map (·.1)).mergeSort leI = M.map (·.1) := by
  refine List.mergeSort_of_pairwise (List.pairwise_map.2 (h.imp fun {a b} hab => ?_))
  simp only [leI, decide_eq_true_eq]
  exact Int.le_of_lt hab
theorem ob_keys {w : World} {mb : Nat} {M : OM} (h : ObAt w mb M) : ∃ D, w.ownsMap Tryz.prog 3 obR mb M.length D ∧ Maps.size D = M.length ∧ ∀ ss : List Int, ss.Perm (intKeys D) → ss.mergeSort leI = M.map (·.1) ∧ ss.length = M.length := by
  obtain ⟨D, h1, h2, h3, _⟩ := h.own
  refine ⟨D, h1, h2, fun ss hp => ?_⟩
  have hq : (M.map (·.1)).Perm (intKeys D) := by
    obtain ⟨es, hD, hpw, _⟩ := h1.entries int_law
    obtain ⟨es', hD', hko⟩ := h1.keysOf
    obtain rfl : es = es' := by rw [hD] at hD'; simpa using hD'
    subst hD
    refine perm_intKeys hpw (fun p hp => by obtain ⟨v, hv⟩ := hko p hp; obtain ⟨x, _, hx, _⟩ := Maps.keyOf_i64 Tryz.underlying3 hv; exact ⟨x, hx⟩) (List.pairwise_map.2 (h.srt.imp fun {a b} hab => by omega)) (fun x => ?_)
    rw [mem_find]
    exact Eq.to_iff (congrArg (· = true) (h3 x).symm)
  have hr := hp.trans hq.symm
  exact ⟨(mergeSort_of_perm_i hr).trans (sortA h.srt), by simpa using hr.length_eq⟩
/-- What Keys answers. -/
def keysF (M : OM) (fr most : Int) : List Int := ((M.map (·.1)).filter fun k => decide (fr ≤ k)).take most.toNat
theorem takeF_snoc (a : List Int) (x : Int) (p : Int → Bool) (m : Nat) : ((a ++ [x]).filter p).take m = if p x = true ∧ ((a.filter p).take m).length < m then (a.filter p).take m ++ [x] else (a.filter p).take m := by
  rw [List.filter_append]
  by_cases hp : p x = true
  · rw [show [x].filter p = [x] by simp [hp], List.take_append]
    by_cases hl : (a.filter p).length < m
    · have : (a.filter p).take m = a.filter p := List.take_of_length_le (by omega)
      rw [this, if_pos ⟨hp, hl⟩, List.take_of_length_le (by simp; omega)]
    · rw [show m - (a.filter p).length = 0 by omega, List.take_zero, List.append_nil, if_neg]
      rintro ⟨_, h⟩
      rw [List.length_take] at h
      omega
  · rw [show [x].filter p = [] by simp [hp], List.append_nil, if_neg (fun h => hp h.1)]
theorem own_base {w : World} {B B' : Nat} {t : TypeId} {size : Nat} {v : Value} {n : Nat} {xs : List Value} (h : w.ownsRow B t size v n xs) (hB : B' ≤ B) : w.ownsRow B' t size v n xs := by
  refine ⟨h.1, ?_⟩
  rcases h.2 with h1 | ⟨g, cap, cur, h1, h2, h3⟩
  · exact .inl h1
  · exact .inr ⟨g, cap, cur, h1, Nat.le_trans hB h2, h3⟩
set_option maxHeartbeats 4000000 in
theorem okeys_any (w : World) (sb pb lb mb kb : Nat) (x : Int) (M : OM) (C : List (Int × Nat)) (h : CoreAt w sb pb lb mb kb x M C) (hM : M.length ≤ 100000) (hK : ∀ k ∈ M.map (·.1), I64 k) (fr most : Int) :
    Calls Tryz.prog 11 #[Ptr sb, I fr, I most] w fun e w' => ∃ v, e = .returned v ∧ w'.ownsRow w.heap.size 3 1 v (keysF M fr most).length ((keysF M fr most).map fun k => I k) ∧ Kept [] w w' := by
  obtain ⟨c0, c1, c2, c3, c4, c5⟩ := h.cells
  obtain ⟨D, hown, hsz, hkeys⟩ := ob_keys h.ob
  obtain ⟨i0, hi, hz0, hz1, hz2⟩ := info_parts int_info
  have hml := hown.lt
  have HSO : Hid (Calls Tryz.prog 37 #[.func (.func 73) #[] #[.pointer (some ⟨w.heap.size, 0, none⟩)]] (w.alloc (.cells #[.map (some mb)] 66)) fun e w' => ∃ v, e = .returned v ∧ w'.ownsRow w.heap.size 3 1 v M.length ((M.map (·.1)).map fun k => I k) ∧ Kept [] w w') := Lib.hid (by
    refine (msorted_any mb _ D obR w hown (by rw [hsz]; unfold maxLen; omega) (by rw [hsz]; omega)).mono ?_
    rintro e w' ⟨v, ss, rfl, hp, hrow, hnil, hb⟩
    obtain ⟨e1, e2⟩ := hkeys ss hp
    refine ⟨v, rfl, ?_, ((Kept.refl [] w).alloc _).trans' (Kept.of_below hb (Nat.le_refl _))⟩
    rw [show (ss.mergeSort fun x y => decide (x ≤ y)) = M.map (·.1) from e1, e2] at hrow
    refine ⟨hrow.1, ?_⟩
    rcases hrow.2 with h1 | ⟨g, cap, cur, h1, h2, h3⟩
    · exact .inl h1
    · exact .inr ⟨g, cap, cur, h1, by rw [World.size_alloc] at h2; omega, h3⟩)
  have HI := Lib.hid (And.intro hi (And.intro hz0 (And.intro hz1 hz2)))
  obtain ⟨ks, hks⟩ : ∃ ks, M.map (·.1) = ks := ⟨_, rfl⟩
  have hkl : ks.length = M.length := by rw [← hks]; simp
  have HF : Hid (keysF M fr most = (ks.filter fun k => decide (fr ≤ k)).take most.toNat) := Lib.hid (by unfold keysF; rw [hks])
  rw [hks] at HSO hK
  rw [← hkl] at HSO hM
  have HK := Lib.hid hK
  clear h hown hsz hkeys hi hz0 hz1 hz2 hks hkl hK c0 c1 c3 c4 c5
  go_enter Tryz.func11, Tryz.ntmps11
  go_wp2_with (fail)
  refine (mkeys_any _ _).mono ?_
  rintro e w1 ⟨rfl, rfl⟩
  go_wp2_with (fail)
  refine HSO.out.mono ?_
  rintro e w2 ⟨v, rfl, own, k2⟩
  obtain ⟨p, c, rfl⟩ := own_form own
  have H2 := Lib.hid (And.intro own k2)
  clear own k2 c2
  have HG : Hid (∀ q, (Value.slice p ks.length c).ownBlock = some q → q < w2.heap.size) := Lib.hid (fun q hq => (own_lt H2.out.1 q hq).2)
  go_wp2_with (fail)
  go_loopw [7, 17] (fun v7 v17 wr => ∃ (a b : List Int), ks = a ++ b ∧ v17 = I a.length ∧ wr.ownsRow w2.heap.size 3 1 v7 ((a.filter fun k => decide (fr ≤ k)).take most.toNat).length (((a.filter fun k => decide (fr ≤ k)).take most.toNat).map fun k => I k) ∧ wr.ownsRow w.heap.size 3 1 (.slice p ks.length c) ks.length (ks.map fun k => I k) ∧ Kept [] w2 wr) (fun _ i _ => ks.length - (intOf i).toNat)
  case atStart => exact ⟨[], ks, rfl, rfl, ⟨by simp, .inl ⟨rfl, by simp⟩⟩, H2.out.1, Kept.refl _ _⟩
  case round =>
    obtain ⟨a, b, hab, rfl, own7, own, kr⟩ := hrel
    obtain ⟨hi, hz0, hz1, hz2⟩ := HI.out
    obtain ⟨p7, c7, rfl⟩ := own_form own7
    cases b with
    | nil =>
      rw [List.append_nil] at hab
      subst hab
      have HR := Lib.hid (And.intro own7 kr)
      clear own7 own kr
      go_wp2_with (fail)
      go_ret
      exact ⟨_, rfl, by rw [HF.out]; exact own_base HR.out.1 H2.out.2.size, H2.out.2.trans' HR.out.2⟩
    | cons x b =>
      have hkl : ks.length = a.length + (b.length + 1) := by rw [hab]; simp
      obtain ⟨g, c', e, hbg, hcc⟩ := row_cells1 own (by omega)
      cases e
      have hx := hcc a.length (by omega)
      rw [List.getElem?_map, show ks[a.length]? = some x by rw [hab, List.getElem?_append_right (Nat.le_refl _), Nat.sub_self]; rfl] at hx
      simp only [Option.map_some] at hx
      have hltI : (a.length : Int) < ks.length := by omega
      have hkI : (ks.length : Int) ≤ 100000 := by omega
      have hlt : a.length < ks.length := by omega
      obtain ⟨L, hL⟩ : ∃ L, (a.filter fun k => decide (fr ≤ k)).take most.toNat = L := ⟨_, rfl⟩
      have HST := Lib.hid (takeF_snoc a x (fun k => decide (fr ≤ k)) most.toNat)
      rw [hL] at own7 HST ⊢
      have hLl : L.length ≤ 100000 := by
        rw [← hL, List.length_take]
        have := List.length_filter_le (fun k => decide (fr ≤ k)) a
        omega
      have HAB := Lib.hid (And.intro hab hL)
      have HR := Lib.hid (And.intro own7 (And.intro own kr))
      clear hab hL own7 own kr hcc hkl
      by_cases c1 : fr ≤ x
      · by_cases c2 : (L.length : Int) < most
        · go_wp2_with (first
            | (at_builtin
               refine wpList_append_lies _ rfl (.tmp 30) (.tmp 32) _ rfl w2.heap.size 3 i0 (.int .i64 0) 1 8 Tryz.underlying34 hi hz0 hz1 hz2 rfl (by decide) (.slice p7 L.length c7) L.length (L.map fun k => I k) rfl (own_kept HR.out.1 ((Kept.refl [] wr).alloc _) (by simp)) ⟨wr.heap.size, 0, none⟩ 1 1 [I x] rfl rfl (World.news_of_block (heap_new wr _)) (by intro u hu; simp at hu; subst hu; rfl) (by decide) (by unfold maxLen; omega) (by omega) (by rw [World.size_alloc]; have := HR.out.2.2.size; omega) _ rfl ?_
               intro g1 cap wa own1 gr1 hat hlt2
               have HA := Lib.hid (And.intro own1 gr1)
               clear own1 gr1 hat hlt2))
          go_roundw
          case rel =>
            obtain ⟨own1, gr1⟩ := HA.out
            refine ⟨a ++ [x], b, by rw [HAB.out.1]; simp, by simp, ?_, ?_, ?_⟩
            · rw [HST.out, if_pos ⟨by simpa using c1, by omega⟩, List.length_append, List.map_append]
              exact own1
            · refine own_kept (own_kept HR.out.2.1 ((Kept.refl [] wr).alloc _) (by simp)) (kept_grown gr1) (fun q hq hm => ?_)
              have := HG.out q hq
              have := (own_lt HR.out.1 q (by simpa using hm)).1
              omega
            · exact (HR.out.2.2.alloc _).new (kept_grown gr1) (fun q hq => (own_lt HR.out.1 q (by simpa using hq)).1)
          case measure => simp [intOf]; omega
        · go_wp2_with (fail)
          go_roundw
          case rel =>
            refine ⟨a ++ [x], b, by rw [HAB.out.1]; simp, by simp, ?_, HR.out.2.1, HR.out.2.2⟩
            rw [HST.out, if_neg (by rintro ⟨_, h⟩; omega)]
            exact HR.out.1
          case measure => simp [intOf]; omega
      · go_wp2_with (fail)
        go_roundw
        case rel =>
          refine ⟨a ++ [x], b, by rw [HAB.out.1]; simp, by simp, ?_, HR.out.2.1, HR.out.2.2⟩
          rw [HST.out, if_neg (by rintro ⟨h, _⟩; simp at h; omega)]
          exact HR.out.1
        case measure => simp [intOf]; omega
/-! ### Get, Weight, Dead -/
def valF (M : OM) (k : Int) : List UInt8 := ((findA M k).map (·.val)).getD []
theorem oget_any (w : World) (sb pb lb mb kb : Nat) (x : Int) (M : OM) (C : List (Int × Nat)) (h : CoreAt w sb pb lb mb kb x M C) (k : Int) (hk : I64 k) :
    Calls Tryz.prog 15 #[Ptr sb, I k] w fun e w' => e = .returned (.tuple #[S (valF M k), .bool (findA M k).isSome]) ∧ Kept [] w w' := by
  obtain ⟨c0, c1, c2, c3, c4, c5⟩ := h.cells
  obtain ⟨ov, os, op, is, hov, hlook⟩ : ∃ (ov : List UInt8) (os op : Nat) (is : Bool), (valF M k = ov ∧ (findA M k).isSome = is) ∧ (Instr.lookup 66 (.map (some mb)) (I k) true).run Tryz.prog w = .ok (.tuple #[.agg #[S ov, I os, I op], .bool is]) w := by
    unfold valF
    cases hfo : findA M k with
    | none => exact ⟨[], 0, 0, false, ⟨rfl, rfl⟩, h.find_none hk hfo⟩
    | some ob => exact ⟨ob.val, ob.seg, ob.pos, true, ⟨rfl, rfl⟩, h.find_some hk hfo⟩
  rw [hov.1, hov.2]
  have hnw := heap_new w (Obj.cells #[S [], I 0, I 0] 77)
  have hf2 := free_at hnw
  have z0 := cell_at hnw 0
  have z1 := cell_at hnw 1
  have z2 := cell_at hnw 2
  simp only [List.getElem?_toArray, List.getElem?_cons_zero, List.getElem?_cons_succ] at z0 z1 z2
  have HN := Lib.hid hnw
  clear h hk hov hnw c0 c1 c3 c4 c5
  go_enter Tryz.func15, Tryz.ntmps15
  go_wp2_with (fail)
  have hst := store3 HN.out (S ov) (I os) (I op)
  have q0 := cell_at hst 0
  simp only [List.getElem?_toArray, List.getElem?_cons_zero, List.getElem?_cons_succ] at q0
  go_wp2_with (fail)
  go_ret2
  exact ⟨rfl, (Kept.refl [] w).alloc _⟩
theorem oweight_any (w : World) (sb pb lb mb kb : Nat) (x : Int) (M : OM) (C : List (Int × Nat)) (h : CoreAt w sb pb lb mb kb x M C) :
    Calls Tryz.prog 10 #[Ptr sb] w fun e w' => e = .returned (I x) ∧ w' = w := by
  obtain ⟨c0, c1, c2, c3, c4, c5⟩ := h.cells
  clear h
  go_enter Tryz.func10, Tryz.ntmps10
  go_wp2_with (fail)
  go_ret
  exact ⟨rfl, rfl⟩
theorem odead_any (w : World) (sb pb lb mb kb : Nat) (x : Int) (M : OM) (C : List (Int × Nat)) (h : CoreAt w sb pb lb mb kb x M C) :
    Calls Tryz.prog 23 #[Ptr sb] w fun e w' => e = .returned (.bool false) ∧ w' = w := by
  obtain ⟨c0, c1, c2, c3, c4, c5⟩ := h.cells
  clear h
  go_enter Tryz.func23, Tryz.ntmps23
  go_wp2_with (fail)
  go_ret
  exact ⟨rfl, rfl⟩
end Go.Proofs.YtdkjlaldhohbmaaGreat
