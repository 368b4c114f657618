/- Walks and lemmas on the program of this seat, used by its statements; each theorem bears its own conditions. -/
import Derived.Test.YtgdioalhlmnhhaaDoorHH
import Derived.Test.YtgdioalhlmnhhaaDoorGI
import Derived.Handy
namespace Go.Proofs.YtgdioalhlmnhhaaDoor
open Go.RowKit
set_option linter.unusedVariables false
set_option linter.unusedSimpArgs false
set_option maxHeartbeats 8000000
set_option maxRecDepth 100000
/-! ### Get -/
/-! ### Lists of strings in memory; a head -/
def StrsAt (w : World) (v : Value) (ss : List (List UInt8)) : Prop :=
  ∃ (p : Option Addr) (cap : Nat), v = .slice p ss.length cap ∧ ss.length ≤ 9223372036854775807 ∧ (ss ≠ [] → ∃ b off, p = some ⟨b, off, none⟩ ∧ ∀ (i : Nat) (h : i < ss.length), w.cell? ⟨b, off + i, none⟩ = some (S ss[i]))
theorem StrsAt.kept {w w' : World} {v : Value} {ss : List (List UInt8)} (h : StrsAt w v ss) (k : Kept [] w w') : StrsAt w' v ss := by
  obtain ⟨p, cap, hv, hl, hc⟩ := h
  refine ⟨p, cap, hv, hl, fun hne => ?_⟩
  obtain ⟨b, off, hp, hcell⟩ := hc hne
  exact ⟨b, off, hp, fun i hi => by rw [k.cell (World.block_lt_of_cell? w _ (hcell i hi)) (by simp)]; exact hcell i hi⟩
theorem S_inj {a b : List UInt8} (h : S a = S b) : a = b := by
  have h1 : (⟨a.toArray⟩ : ByteArray) = ⟨b.toArray⟩ := by injection h
  have h2 : a.toArray = b.toArray := by injection h1
  exact congrArg Array.toList h2

/-- 'head.Get' -/
def getF (names values : List (List UInt8)) (name : List UInt8) : List UInt8 × Nat :=
  ((match names.findIdx? (· == name) with | some i => values.getD i [] | none => []), names.count name)
theorem findIdx?_snoc {p : List UInt8 → Bool} (l : List (List UInt8)) (x : List UInt8) : (l ++ [x]).findIdx? p = match l.findIdx? p with | some i => some i | none => if p x then some l.length else none := by
  rw [List.findIdx?_append]
  cases h : l.findIdx? p with
  | some i => simp
  | none => simp
theorem getF_no (l values : List (List UInt8)) (x name : List UInt8) (h : x ≠ name) : getF (l ++ [x]) values name = getF l values name := by
  unfold getF
  rw [findIdx?_snoc, List.count_append]
  have h1 : (x == name) = false := by simpa using h
  cases l.findIdx? (· == name) <;> simp [h1, h]
theorem getF_again (l values : List (List UInt8)) (name : List UInt8) (h : 0 < (getF l values name).2) : getF (l ++ [name]) values name = ((getF l values name).1, (getF l values name).2 + 1) := by
  unfold getF at h ⊢
  simp only at h
  rw [findIdx?_snoc, List.count_append]
  have hm : name ∈ l := List.count_pos_iff.1 h
  cases hf : l.findIdx? (· == name) with
  | some i => simp
  | none => simp [List.findIdx?_eq_none_iff] at hf; exact absurd rfl (hf name hm)
theorem getF_first (l values : List (List UInt8)) (name : List UInt8) (h : (getF l values name).2 = 0) : getF (l ++ [name]) values name = (values.getD l.length [], 1) ∧ (getF l values name).1 = [] := by
  unfold getF at h ⊢
  simp only at h
  have hm : name ∉ l := List.count_eq_zero.1 h
  have hf : l.findIdx? (· == name) = none := by rw [List.findIdx?_eq_none_iff]; intro x hx; simp; rintro rfl; exact hm hx
  rw [findIdx?_snoc, List.count_append]
  simp [hf, h]
theorem getF_le (l values : List (List UInt8)) (name : List UInt8) : (getF l values name).2 ≤ l.length := List.count_le_length

def GetRel (names values : List (List UInt8)) (name : List UInt8) (w : World) (v n i : Value) (wr : World) : Prop :=
  ∃ k : Nat, k ≤ names.length ∧ i = I k ∧ v = S (getF (names.take k) values name).1 ∧ n = I (getF (names.take k) values name).2 ∧ Kept [] w wr


theorem get_any (st : Int) (nv vv : Value) (names values : List (List UInt8)) (name : List UInt8) (w : World) (hn : StrsAt w nv names) (hv : StrsAt w vv values) :
    Calls Tryd.prog 45 #[.agg #[I st, nv, vv], S name] w fun e w' => e = .returned (.tuple #[S (getF names values name).1, I (getF names values name).2]) ∧ Kept [] w w' := by
  have HN := hn
  have HV := hv
  obtain ⟨pn, cn, rfl, hnl, hnc⟩ := hn
  obtain ⟨pv, cv, rfl, hvl, hvc⟩ := hv
  have hnl' : (names.length : Int) ≤ 9223372036854775807 := by omega
  have hvl' : (values.length : Int) ≤ 9223372036854775807 := by omega
  have Hn := Lib.hid hnc
  have Hv := Lib.hid hvc
  clear hnc hvc
  go_enter Tryd.func45, Tryd.ntmps45
  go_wp2_with (fail)
  go_loop [6, 7, 13] (fun v n i => ∃ k : Nat, k ≤ names.length ∧ i = I k ∧ v = S (getF (names.take k) values name).1 ∧ n = I (getF (names.take k) values name).2) (fun _ _ i => names.length - (intOf i).toNat)
  case atStart => exact ⟨0, by omega, rfl, rfl, rfl⟩
  case round =>
    obtain ⟨k, hk, rfl, rfl, rfl⟩ := hrel
    have hgl := getF_le (names.take k) values name
    have hgl' : (getF (names.take k) values name).2 ≤ k := by rw [List.length_take] at hgl; omega
    clear hgl
    by_cases hlt : k < names.length
    · obtain ⟨bn, on, rfl, hcn⟩ := Hn.out (by intro h; rw [h] at hlt; simp at hlt)
      have hc := hcn k hlt
      have hbn : bn < w.heap.size := World.block_lt_of_cell? w _ hc
      have hts : names.take (k + 1) = names.take k ++ [names[k]] := by rw [List.take_succ_eq_append_getElem hlt]
      generalize hx : names[k] = x at *
      obtain ⟨v, m, hvm⟩ : ∃ v m, getF (names.take k) values name = (v, m) := ⟨_, _, rfl⟩
      rw [hvm] at hgl' ⊢
      simp only at hgl' ⊢
      have hlk : (names.take k).length = k := by simp; omega
      have HTS := Lib.hid hts
      have HX := Lib.hid hx
      have HVM := Lib.hid hvm
      have HLK := Lib.hid hlk
      clear hts hx hcn hvm hlk
      by_cases hxe : x = name
      · by_cases hm : m = 0
        · by_cases hkv : k < values.length
          · obtain ⟨bv, ov, rfl, hcv⟩ := Hv.out (by intro h; rw [h] at hkv; simp at hkv)
            have hd := hcv k hkv
            have hbv : bv < w.heap.size := World.block_lt_of_cell? w _ hd
            have HD : Hid (getF (names.take (k + 1)) values name = (values[k], 1)) := by
              have h1 := getF_first (names.take k) values name (by rw [HVM.out]; exact hm)
              unfold Hid
              rw [HTS.out, hxe, h1.1, HLK.out]
              simp [hkv]
            generalize hy : values[k] = y at *
            clear hcv hy
            subst hxe hm
            go_wp2_with (fail)
            go_round
            case rel => exact ⟨k + 1, by omega, by go_num, by rw [HD.out], by rw [HD.out]; rfl⟩
            case measure => simp [intOf]; omega
          · have HD : Hid (getF (names.take (k + 1)) values name = (v, 1)) := by
              have h1 := getF_first (names.take k) values name (by rw [HVM.out]; exact hm)
              have h2 := h1.2
              rw [HVM.out] at h2
              unfold Hid
              rw [HTS.out, hxe, h1.1, HLK.out]
              simp at h2
              rw [h2, List.getD_eq_getElem?_getD, List.getElem?_eq_none (by omega)]
              rfl
            subst hxe hm
            go_wp2_with (fail)
            go_round
            case rel => exact ⟨k + 1, by omega, by go_num, by rw [HD.out], by rw [HD.out]; rfl⟩
            case measure => simp [intOf]; omega
        · have HD : Hid (getF (names.take (k + 1)) values name = (v, m + 1)) := by
            have h1 := getF_again (names.take k) values name (by rw [HVM.out]; simp only; omega)
            unfold Hid
            rw [HTS.out, hxe, h1, HVM.out]
          have hm0 : ((m : Int) == 0) = false := by simp; omega
          subst hxe
          go_wp2_with (fail)
          go_round
          case rel => exact ⟨k + 1, by omega, by go_num, by rw [HD.out], by rw [HD.out]; go_num⟩
          case measure => simp [intOf]; omega
      · have HD : Hid (getF (names.take (k + 1)) values name = (v, m)) := by
          unfold Hid
          rw [HTS.out, getF_no _ _ _ _ hxe, HVM.out]
        have hxb : (x == name) = false := by simpa using hxe
        clear hxe
        go_wp2_with (fail)
        go_round
        case rel => exact ⟨k + 1, by omega, by go_num, by rw [HD.out], by rw [HD.out]⟩
        case measure => simp [intOf]; omega
    · go_wp2_with (fail)
      go_ret2
      have : names.take k = names := List.take_of_length_le (by omega)
      rw [this]
      exact ⟨rfl, (Kept.refl _ _).alloc _⟩
theorem StrsAt.of_texts {w : World} {v : Value} {ss : List (List UInt8)} (h : TextsAt w v ss) : StrsAt w v ss := by
  obtain ⟨p, cap, hv, hl, hc⟩ := h
  refine ⟨p, cap, hv, hl, fun hne => ?_⟩
  obtain ⟨b, off, hp, hcell⟩ := hc hne
  exact ⟨b, off, hp, fun i hi => by rw [hcell i hi]; simp [List.getD, hi]⟩
theorem count_two (l : List (List UInt8)) (x : List UInt8) (i j : Nat) (hij : i < j) (hj : j < l.length) (h1 : l[i] = x) (h2 : l[j] = x) : 2 ≤ l.count x := by
  have m1 : x ∈ l.take (i + 1) := by rw [← h1]; exact List.mem_take_iff_getElem.2 ⟨i, by omega, rfl⟩
  have m2 : x ∈ l.drop (i + 1) := by rw [← h2]; exact List.mem_drop_iff_getElem.2 ⟨j - (i + 1), by omega, by congr 1; omega⟩
  have c1 := List.count_pos_iff.2 m1
  have c2 := List.count_pos_iff.2 m2
  rw [← List.take_append_drop (i + 1) l, List.count_append]
  omega
theorem get_at (ns vs : List (List UInt8)) (i : Nat) (hi : i < ns.length) (hl : ns.length = vs.length) :
    1 ≤ (getF ns vs (ns.getD i [])).2 ∧ ((getF ns vs (ns.getD i [])).2 = 1 → (getF ns vs (ns.getD i [])).1 = vs.getD i []) := by
  have hx : ns.getD i [] = ns[i] := by simp [List.getD, hi]
  rw [hx]
  have hm : ns[i] ∈ ns := List.getElem_mem _
  unfold getF
  simp only
  refine ⟨List.count_pos_iff.2 hm, fun h1 => ?_⟩
  cases hf : ns.findIdx? (· == ns[i]) with
  | none => simp [List.findIdx?_eq_none_iff] at hf; exact absurd rfl (hf _ hm)
  | some j =>
    simp only
    rw [List.findIdx?_eq_some_iff_getElem] at hf
    obtain ⟨hj, hje, _⟩ := hf
    have hje' : ns[j] = ns[i] := by simpa using hje
    by_cases hij : j = i
    · rw [hij]
    · exfalso
      have h2 : 2 ≤ ns.count ns[i] := by
        rcases Nat.lt_or_gt_of_ne hij with h | h
        · exact count_two ns ns[i] j i h hi hje' rfl
        · exact count_two ns ns[i] i j h hj rfl hje'
      omega
def sameH (a b : Hd) : Bool := a.st == b.st && (a.ns == b.ns && a.vs == b.vs)
theorem take_getD' (l : List (List UInt8)) (i : Nat) (h : i < l.length) : l.take (i + 1) = l.take i ++ [l.getD i []] := by
  rw [List.take_succ_eq_append_getElem h]; simp [List.getD, h]
theorem cells3 {w : World} {b : Nat} {x y z : Value} {t : TypeId} (h : w.heap[b]? = some (.cells #[x, y, z] t (0, 0))) : w.cell? ⟨b, 0, none⟩ = some x ∧ w.cell? ⟨b, 1, none⟩ = some y ∧ w.cell? ⟨b, 2, none⟩ = some z := ⟨cell_at h 0, cell_at h 1, cell_at h 2⟩

theorem ne_of_getD (a b : List (List UInt8)) (i : Nat) (h : a.getD i [] ≠ b.getD i []) : a ≠ b := by intro e; subst e; exact h rfl
theorem bne_nat (a b : Nat) : ((a : Int) != (b : Int)) = (a != b) := by
  rw [Bool.eq_iff_iff, bne_iff_ne, bne_iff_ne]; omega
theorem rsame_any (a b : Hd) (n1 v1 n2 v2 : Value) (w : World) (hn1 : TextsAt w n1 a.ns) (hv1 : TextsAt w v1 a.vs) (hn2 : TextsAt w n2 b.ns) (hv2 : TextsAt w v2 b.vs) (r : Bool) (hr : sameH a b = r) :
    Calls Tryd.prog 42 #[.agg #[I a.st, n1, v1], .agg #[I b.st, n2, v2]] w fun e w' => e = .returned (.bool r) ∧ Kept [] w w' := by
  obtain ⟨sa, na, va⟩ := a
  obtain ⟨sb, nb, vb⟩ := b
  simp only at hn1 hv1 hn2 hv2 ⊢
  have HR := Lib.hid hr
  clear hr
  have K0 : Kept [] w ((w.alloc (.cells #[I sa, n1, v1] 65)).alloc (.cells #[I sb, n2, v2] 65)) := ((Kept.refl _ _).alloc _).alloc _
  have HT := Lib.hid (And.intro (hn1.kept K0) (And.intro (hv1.kept K0) (And.intro (hn2.kept K0) (hv2.kept K0))))
  have h0 : ((w.alloc (.cells #[I sa, n1, v1] 65)).alloc (.cells #[I sb, n2, v2] 65)).heap[w.heap.size]? = some (.cells #[I sa, n1, v1] 65 (0, 0)) := by
    rw [Below.heap_alloc _ _ _ (by simp)]; exact heap_new w _
  have h1 : ((w.alloc (.cells #[I sa, n1, v1] 65)).alloc (.cells #[I sb, n2, v2] 65)).heap[w.heap.size + 1]? = some (.cells #[I sb, n2, v2] 65 (0, 0)) := by
    have := heap_new (w.alloc (.cells #[I sa, n1, v1] 65)) (.cells #[I sb, n2, v2] 65)
    simpa using this
  have HB := Lib.hid (And.intro h0 (And.intro h1 K0))
  clear h0 h1 K0
  obtain ⟨p1, q1, rfl, l1, -⟩ := hn1
  obtain ⟨p2, q2, rfl, l2, -⟩ := hv1
  obtain ⟨p3, q3, rfl, l3, -⟩ := hn2
  obtain ⟨p4, q4, rfl, l4, -⟩ := hv2
  have b1 : (na.length : Int) ≤ 9223372036854775807 := by omega
  have b2 : (va.length : Int) ≤ 9223372036854775807 := by omega
  have b3 : (nb.length : Int) ≤ 9223372036854775807 := by omega
  have b4 : (vb.length : Int) ≤ 9223372036854775807 := by omega
  by_cases hs : sa = sb
  case neg =>
    have HF : Hid (r = false) := Lib.hid (by rw [← HR.out]; unfold sameH; simp [hs])
    have hs' : ((sa : Int) != sb) = true := by rw [bne_nat]; simpa using hs
    clear l1 l2 l3 l4
    go_enter Tryd.func42, Tryd.ntmps42
    go_wp2_with (fail)
    go_ret
    exact ⟨by rw [HF.out] <;> rfl, HB.out.2.2⟩
  have hs' : ((sa : Int) != sb) = false := by rw [bne_nat]; simpa using hs
  by_cases hln : na.length = nb.length
  case neg =>
    have HF : Hid (r = false) := Lib.hid (by rw [← HR.out]; unfold sameH; have : (na == nb) = false := by simp; intro e; exact hln (by rw [e])
                                             simp [this])
    have hl' : ((na.length : Int) != nb.length) = true := by rw [bne_nat]; simpa using hln
    clear l1 l2 l3 l4 hs
    go_enter Tryd.func42, Tryd.ntmps42
    go_wp2_with (fail)
    go_ret
    exact ⟨by rw [HF.out] <;> rfl, HB.out.2.2⟩
  have hl' : ((na.length : Int) != nb.length) = false := by rw [bne_nat]; simpa using hln
  by_cases hlv : va.length = vb.length
  case neg =>
    have HF : Hid (r = false) := Lib.hid (by rw [← HR.out]; unfold sameH; have : (va == vb) = false := by simp; intro e; exact hlv (by rw [e])
                                             simp [this])
    have hm' : ((va.length : Int) != vb.length) = true := by rw [bne_nat]; simpa using hlv
    clear l1 l2 l3 l4 hs hln
    go_enter Tryd.func42, Tryd.ntmps42
    go_wp2_with (fail)
    go_ret
    exact ⟨by rw [HF.out] <;> rfl, HB.out.2.2⟩
  have hm' : ((va.length : Int) != vb.length) = false := by rw [bne_nat]; simpa using hlv
  have HFN : Hid (∀ i, na.getD i [] ≠ nb.getD i [] → r = false) := Lib.hid fun i hi => by
    rw [← HR.out]; unfold sameH; have : (na == nb) = false := by simpa using ne_of_getD _ _ i hi
    simp [this]
  have HFV : Hid (∀ i, va.getD i [] ≠ vb.getD i [] → r = false) := Lib.hid fun i hi => by
    rw [← HR.out]; unfold sameH; have : (va == vb) = false := by simpa using ne_of_getD _ _ i hi
    simp [this]
  have HFT : Hid (na = nb → va = vb → r = true) := Lib.hid fun x y => by
    rw [← HR.out]; unfold sameH; simp [hs, x, y]
  have HLN := Lib.hid (And.intro hln hlv)
  clear l1 l2 l3 l4 hs hln hlv
  go_enter Tryd.func42, Tryd.ntmps42
  go_wp2_with (fail)
  clear hs' hl' hm'
  obtain ⟨W, hW⟩ : ∃ W, (w.alloc (.cells #[I sa, .slice p1 na.length q1, .slice p2 va.length q2] 65)).alloc (.cells #[I sb, .slice p3 nb.length q3, .slice p4 vb.length q4] 65) = W := ⟨_, rfl⟩
  rw [hW] at HT HB
  rw [hW]
  clear hW
  go_loopw [5] (fun i wr => ∃ k : Nat, k ≤ na.length ∧ i = I k ∧ na.take k = nb.take k ∧ Kept [] W wr) (fun i _ => na.length - (intOf i).toNat)
  case atStart => exact ⟨0, by omega, rfl, rfl, Kept.refl _ _⟩
  case round =>
    obtain ⟨k, hk, rfl, htk, hkw⟩ := hrel
    have HK := Lib.hid (And.intro htk hkw)
    obtain ⟨c10, c11, c12⟩ := cells3 (hkw.at HB.out.1 (by simp))
    obtain ⟨c20, c21, c22⟩ := cells3 (hkw.at HB.out.2.1 (by simp))
    have t1 := HT.out.1.kept hkw
    have t3 := HT.out.2.2.1.kept hkw
    clear htk hkw
    by_cases hlt : k < na.length
    · have hlt' : (k : Int) < na.length := by omega
      have hltb : (k : Int) < nb.length := by have := HLN.out.1; omega
      obtain ⟨_, _, e1, _, g1⟩ := t1
      obtain ⟨_, _, e3, _, g3⟩ := t3
      cases e1; cases e3
      obtain ⟨x1, o1, rfl, f1⟩ := g1 (by intro h; rw [h] at hlt; simp at hlt)
      obtain ⟨x3, o3, rfl, f3⟩ := g3 (by intro h; have h0 := HLN.out.1; have h2 : nb.length = 0 := (by rw [h]; rfl); omega)
      have d1 := f1 k hlt
      have d3 := f3 k (by have := HLN.out.1; omega)
      have HS1 := Lib.hid (take_getD' na k hlt)
      have HS2 := Lib.hid (take_getD' nb k (by have := HLN.out.1; omega))
      have HN := Lib.hid (HFN.out k)
      clear f1 f3 g1 g3
      obtain ⟨x, hx⟩ : ∃ x, na.getD k [] = x := ⟨_, rfl⟩
      obtain ⟨y, hy⟩ : ∃ y, nb.getD k [] = y := ⟨_, rfl⟩
      rw [hx] at d1 HS1 HN
      rw [hy] at d3 HS2 HN
      clear hx hy
      by_cases hxy : x = y
      · subst hxy
        go_wp2_with (fail)
        go_quiet (fail)
        go_wp2_with (fail)
        go_roundw
        case rel => exact ⟨k + 1, by omega, by go_num, by rw [HS1.out, HS2.out, HK.out.1], HK.out.2.drewN _⟩
        case measure => simp [intOf]; omega
      · have hb : (x != y) = true := by simpa using hxy
        have hb2 : (x == y) = false := by simpa using hxy
        have HF := Lib.hid (HN.out hxy)
        clear hxy
        go_wp2_with (fail)
        go_quiet (fail)
        go_wp2_with (fail)
        go_ret
        exact ⟨by rw [HF.out] <;> rfl, (HB.out.2.2.trans' HK.out.2).drewN _⟩
    · have hlt' : ¬ (k : Int) < na.length := by omega
      have HEN : Hid (na = nb) := Lib.hid (by
        have h := HK.out.1
        rwa [List.take_of_length_le (by omega), List.take_of_length_le (by have := HLN.out.1; omega)] at h)
      clear t1 t3
      go_wp2_with (fail)
      clear c10 c11 c12 c20 c21 c22 hlt hlt'
      go_loopw [6] (fun i wr => ∃ k : Nat, k ≤ va.length ∧ i = I k ∧ va.take k = vb.take k ∧ Kept [] W wr) (fun i _ => va.length - (intOf i).toNat)
      case atStart => exact ⟨0, by omega, rfl, rfl, HK.out.2⟩
      case round =>
        clear hk
        obtain ⟨k, hk, rfl, htk, hkw⟩ := hrel
        have HK := Lib.hid (And.intro htk hkw)
        obtain ⟨c10, c11, c12⟩ := cells3 (hkw.at HB.out.1 (by simp))
        obtain ⟨c20, c21, c22⟩ := cells3 (hkw.at HB.out.2.1 (by simp))
        have t1 := HT.out.2.1.kept hkw
        have t3 := HT.out.2.2.2.kept hkw
        clear htk hkw
        by_cases hlt : k < va.length
        · have hlt' : (k : Int) < va.length := by omega
          have hltb : (k : Int) < vb.length := by have := HLN.out.2; omega
          obtain ⟨_, _, e1, _, g1⟩ := t1
          obtain ⟨_, _, e3, _, g3⟩ := t3
          cases e1; cases e3
          obtain ⟨x1, o1, rfl, f1⟩ := g1 (by intro h; rw [h] at hlt; simp at hlt)
          obtain ⟨x3, o3, rfl, f3⟩ := g3 (by intro h; have h0 := HLN.out.2; have h2 : vb.length = 0 := (by rw [h]; rfl); omega)
          have d1 := f1 k hlt
          have d3 := f3 k (by have := HLN.out.2; omega)
          have HS1 := Lib.hid (take_getD' va k hlt)
          have HS2 := Lib.hid (take_getD' vb k (by have := HLN.out.2; omega))
          have HN := Lib.hid (HFV.out k)
          clear f1 f3 g1 g3
          obtain ⟨x, hx⟩ : ∃ x, va.getD k [] = x := ⟨_, rfl⟩
          obtain ⟨y, hy⟩ : ∃ y, vb.getD k [] = y := ⟨_, rfl⟩
          rw [hx] at d1 HS1 HN
          rw [hy] at d3 HS2 HN
          clear hx hy
          by_cases hxy : x = y
          · subst hxy
            go_wp2_with (fail)
            go_quiet (fail)
            go_wp2_with (fail)
            go_roundw
            case rel => exact ⟨k + 1, by omega, by go_num, by rw [HS1.out, HS2.out, HK.out.1], HK.out.2.drewN _⟩
            case measure => simp [intOf]; omega
          · have hb : (x != y) = true := by simpa using hxy
            have hb2 : (x == y) = false := by simpa using hxy
            have HF := Lib.hid (HN.out hxy)
            clear hxy
            go_wp2_with (fail)
            go_quiet (fail)
            go_wp2_with (fail)
            go_ret
            exact ⟨by rw [HF.out] <;> rfl, (HB.out.2.2.trans' HK.out.2).drewN _⟩
        · have hlt' : ¬ (k : Int) < va.length := by omega
          have HEV : Hid (va = vb) := Lib.hid (by
            have h := HK.out.1
            rwa [List.take_of_length_le (by omega), List.take_of_length_le (by have := HLN.out.2; omega)] at h)
          have HF := Lib.hid (HFT.out HEN.out HEV.out)
          clear t1 t3
          go_wp2_with (fail)
          go_ret
          exact ⟨by rw [HF.out] <;> rfl, HB.out.2.2.trans' HK.out.2⟩
end Go.Proofs.YtgdioalhlmnhhaaDoor
