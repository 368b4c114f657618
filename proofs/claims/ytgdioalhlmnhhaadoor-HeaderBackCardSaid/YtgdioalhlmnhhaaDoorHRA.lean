/- Walks and lemmas on the program of this seat, used by its statements; each theorem bears its own conditions. -/
import Derived.Test.YtgdioalhlmnhhaaDoorGI
import Derived.Test.YtgdioalhlmnhhaaDoorHPU
import Derived.Handy
import Derived.Maps.Own
import Derived.Maps.OwnSet
namespace Go.Proofs.YtgdioalhlmnhhaaDoor
open Go.RowKit
set_option linter.unusedVariables false
set_option linter.unusedSimpArgs false
/-! ### slices.Contains, Fits -/
abbrev HrT : TypeId := 53
def IdxPost (n : Nat) (w : World) (e : Ending) (w' : World) : Prop := ∃ k : Nat, k < n ∧ e = .returned (I k) ∧ w = w'
theorem index_yes (v : Value) (l : List (List UInt8)) (x : List UInt8) (w : World) (h : TextsAt w v l) (hx : x ∈ l) :
    Calls Tryd.prog 96 #[v, S x] w (IdxPost l.length w) := by
  obtain ⟨p, c, rfl, hl, hcell⟩ := h
  have hl' : (l.length : Int) ≤ 9223372036854775807 := by omega
  have HC := Lib.hid hcell
  have HX := Lib.hid hx
  clear hcell hx
  go_enter Tryd.func96, Tryd.ntmps96
  go_wp2_with (fail)
  go_loop [8] (fun i => ∃ k : Nat, i = I k ∧ k ≤ l.length ∧ ∀ j, j < k → l.getD j [] ≠ x) (fun i => l.length - (intOf i).toNat)
  case atStart => exact ⟨0, rfl, by omega, fun j hj => by omega⟩
  case round =>
    obtain ⟨k, rfl, hk, hno⟩ := hrel
    have HN := Lib.hid hno
    clear hno
    by_cases hlt : k < l.length
    · have hlt' : (k : Int) < l.length := by omega
      obtain ⟨b, o, rfl, hc⟩ := HC.out (by intro e; rw [e] at hlt; simp at hlt)
      have c1 := hc k hlt
      obtain ⟨y, hy⟩ : ∃ y, l.getD k [] = y := ⟨_, rfl⟩
      rw [hy] at c1
      have HY := Lib.hid hy
      clear hc hy
      cases hxy : x == y with
      | true =>
        go_wp2_with (fail)
        go_ret
        exact ⟨k, hlt, rfl, rfl⟩
      | false =>
        go_wp2_with (fail)
        go_round
        case rel =>
          refine ⟨k + 1, by go_num, by omega, fun j hj => ?_⟩
          by_cases hjk : j = k
          · subst hjk; rw [HY.out]; intro e; subst e; simp at hxy
          · exact HN.out j (by omega)
        case measure => simp [intOf]; omega
    · exfalso
      obtain ⟨j, hj, e⟩ := List.getElem_of_mem HX.out
      exact HN.out j (by omega) (by rw [← e]; simp [List.getD, hj])
theorem index_no (v : Value) (l : List (List UInt8)) (x : List UInt8) (w : World) (h : TextsAt w v l) (hx : x ∉ l) :
    Calls Tryd.prog 96 #[v, S x] w fun e w' => e = .returned (I (-1)) ∧ w = w' := by
  obtain ⟨p, c, rfl, hl, hcell⟩ := h
  have hl' : (l.length : Int) ≤ 9223372036854775807 := by omega
  have HC := Lib.hid hcell
  have HX := Lib.hid hx
  clear hcell hx
  go_enter Tryd.func96, Tryd.ntmps96
  go_wp2_with (fail)
  go_loop [8] (fun i => ∃ k : Nat, i = I k ∧ k ≤ l.length) (fun i => l.length - (intOf i).toNat)
  case atStart => exact ⟨0, rfl, by omega⟩
  case round =>
    obtain ⟨k, rfl, hk⟩ := hrel
    by_cases hlt : k < l.length
    · have hlt' : (k : Int) < l.length := by omega
      obtain ⟨b, o, rfl, hc⟩ := HC.out (by intro e; rw [e] at hlt; simp at hlt)
      have c1 := hc k hlt
      have hxy : (x == l.getD k []) = false := by
        rw [beq_eq_false_iff_ne]; intro e; apply HX.out; rw [e]; simp [List.getD, hlt]
      obtain ⟨y, hy⟩ : ∃ y, l.getD k [] = y := ⟨_, rfl⟩
      rw [hy] at c1 hxy
      clear hc hy
      go_wp2_with (fail)
      go_round
      case rel => exact ⟨k + 1, by go_num, by omega⟩
      case measure => simp [intOf]; omega
    · go_wp2_with (fail)
      go_ret
      exact ⟨rfl, rfl⟩
theorem contains_any (v : Value) (l : List (List UInt8)) (x : List UInt8) (w : World) (h : TextsAt w v l) (r : Bool) (hr : decide (x ∈ l) = r) :
    Calls Tryd.prog 61 #[v, S x] w fun e w' => e = .returned (.bool r) ∧ w = w' := by
  cases r with
  | true =>
    have HX := Lib.hid (index_yes v l x w h (of_decide_eq_true hr))
    obtain ⟨p, c, rfl, hl, -⟩ := h
    have hl' : (l.length : Int) ≤ 9223372036854775807 := by omega
    clear hr
    go_enter Tryd.func61, Tryd.ntmps61
    go_wp2_with (fail)
    refine HX.out.mono ?_
    rintro e w' ⟨k, hk, rfl, rfl⟩
    have hk' : (k : Int) ≥ 0 := by omega
    go_wp2_with (fail)
    go_ret
    exact ⟨rfl, rfl⟩
  | false =>
    have HX := Lib.hid (index_no v l x w h (of_decide_eq_false hr))
    obtain ⟨p, c, rfl, hl, -⟩ := h
    clear hr
    go_enter Tryd.func61, Tryd.ntmps61
    go_wp2_with (fail)
    refine HX.out.mono ?_
    rintro e w' ⟨rfl, rfl⟩
    go_wp2_with (fail)
    go_ret
    exact ⟨rfl, rfl⟩
def Blk3 (w : World) (b : Nat) (cs : Array Value) : Prop := w.heap[b]? = some (.cells cs HrT (0, 0))
theorem cells3r {w : World} {b : Nat} {x y z : Value} (h : w.heap[b]? = some (.cells #[x, y, z] HrT (0, 0))) : w.cell? ⟨b, 0, none⟩ = some x ∧ w.cell? ⟨b, 1, none⟩ = some y ∧ w.cell? ⟨b, 2, none⟩ = some z := by simp [cell_at h]
theorem fits_any (nm : List UInt8) (v : Value) (sz : Int) (l : List (List UInt8)) (x : List UInt8) (w : World) (h : TextsAt w v l) (r : Bool) (hr : decide (x ∈ l) = r) :
    Calls Tryd.prog 31 #[.agg #[S nm, v, I sz], S x] w fun e w' => e = .returned (.bool r) ∧ Kept [] w w' := by
  have K0 : Kept [] w (w.alloc (.cells #[S nm, v, I sz] HrT)) := (Kept.refl _ _).alloc _
  have HC := Lib.hid (contains_any v l x _ (h.kept K0) r hr)
  have HK := Lib.hid K0
  obtain ⟨p, c, rfl, hl, -⟩ := h
  clear hr K0
  go_enter Tryd.func31, Tryd.ntmps31
  go_wp2_with (fail)
  refine HC.out.mono ?_
  rintro e w' ⟨rfl, rfl⟩
  go_wp2_with (fail)
  go_ret
  exact ⟨rfl, HK.out⟩
/-! ### header.Print -/
open Go.Maps Go.WideMaps
theorem any_same (acc : List Lit) (x : List UInt8) : (acc.any fun y => y.sameKey (.string x)) = true ↔ Lit.string x ∈ acc := by
  rw [List.any_eq_true]
  constructor
  · rintro ⟨y, hy, h⟩
    have := (WideAt.sameKey_iff (a := y) (b := .string x) trivial).1 h
    subst this; exact hy
  · intro h; exact ⟨_, h, WideAt.sameKey_self trivial⟩
theorem keys_count : ∀ (xs : List (List UInt8)) (acc : List Lit), ((xs.map Lit.string).foldl Maps.addKey acc).length ≤ acc.length + xs.length ∧
    (((xs.map Lit.string).foldl Maps.addKey acc).length = acc.length + xs.length ↔ (xs.Nodup ∧ ∀ x ∈ xs, Lit.string x ∉ acc))
  | [], acc => by simp
  | x :: xs, acc => by
    rw [List.map_cons, List.foldl_cons]
    obtain ⟨i1, i2⟩ := keys_count xs (Maps.addKey acc (.string x))
    by_cases hx : Lit.string x ∈ acc
    · have e : Maps.addKey acc (.string x) = acc := by unfold Maps.addKey; rw [if_pos ((any_same acc x).2 hx)]
      rw [e] at i1 ⊢
      refine ⟨by simp; omega, ⟨fun h => by simp at h; omega, fun h => absurd hx (h.2 x (by simp))⟩⟩
    · have e : Maps.addKey acc (.string x) = acc ++ [.string x] := by unfold Maps.addKey; rw [if_neg (fun h => hx ((any_same acc x).1 h))]
      rw [e] at i1 i2 ⊢
      simp only [List.length_append, List.length_cons, List.length_nil, Nat.zero_add] at i1 i2 ⊢
      refine ⟨by omega, ?_⟩
      rw [show acc.length + (xs.length + 1) = acc.length + 1 + xs.length by omega, i2, List.nodup_cons]
      constructor
      · rintro ⟨h1, h2⟩
        refine ⟨⟨fun hm => h2 x hm (by simp), h1⟩, fun y hy => ?_⟩
        rcases List.mem_cons.1 hy with rfl | hy
        · exact hx
        · exact fun hm => h2 y hy (by simp [hm])
      · rintro ⟨⟨h1, h2⟩, h3⟩
        refine ⟨h2, fun y hy hm => ?_⟩
        rcases List.mem_append.1 hm with hm | hm
        · exact h3 y (by simp [hy]) hm
        · simp at hm; subst hm; exact h1 hy
abbrev seenD (ds : List (List UInt8)) : DataW Unit := setOf (.lit (.bool true)) (ds.map Lit.string)
theorem seen_size (ds : List (List UInt8)) : Maps.size (seenD ds) ≤ ds.length ∧ (Maps.size (seenD ds) = ds.length ↔ ds.Nodup) := by
  have hk : ∀ x ∈ ds.map Lit.string, WideAt.IsKeyLit x := by intro x hx; obtain ⟨y, _, rfl⟩ := List.mem_map.1 hx; trivial
  have h := keys_count ds []
  unfold seenD
  rw [size_setOf _ _ hk]
  simp only [List.length_nil, Nat.zero_add, List.not_mem_nil, not_false_eq_true, implies_true, and_true] at h
  exact h
theorem seen_zero (ds : List (List UInt8)) : Maps.size (seenD ds) = 0 ↔ ds = [] := by
  cases ds with
  | nil => simp [seenD, setOf, Maps.size]
  | cons x xs =>
    have h := keys_count xs [.string x]
    have hk : ∀ y ∈ (x :: xs).map Lit.string, WideAt.IsKeyLit y := by intro z hz; obtain ⟨y, _, rfl⟩ := List.mem_map.1 hz; trivial
    unfold seenD
    rw [size_setOf _ _ hk, List.map_cons, List.foldl_cons]
    have e : Maps.addKey [] (.string x) = [.string x] := rfl
    rw [e]
    have key : ∀ (ys : List Lit) (acc : List Lit), acc ≠ [] → (ys.foldl Maps.addKey acc).length ≠ 0 := by
      intro ys
      induction ys with
      | nil => intro acc h; simpa using h
      | cons y ys ih => intro acc h; rw [List.foldl_cons]; exact ih _ (by unfold Maps.addKey; split <;> simp [h])
    simp only [reduceCtorEq, iff_false]
    exact key _ _ (by simp)
theorem seen_snoc (ds : List (List UInt8)) (k : Nat) (h : k < ds.length) : seenD (ds.take (k + 1)) = (seenD (ds.take k)).put (.string (ds.getD k [])) (.lit (.bool true)) := by
  unfold seenD
  rw [List.take_succ_eq_append_getElem h, List.map_append, List.map_cons, List.map_nil, setOf_snoc]
  simp [List.getD, h]
theorem mem_getD1 (l : List (List UInt8)) (k : Nat) (h : k < l.length) : l.getD k [] ∈ l := by
  have : l.getD k [] = l[k] := by simp [List.getD, h]
  rw [this]; exact List.getElem_mem _
theorem strKey : Keyed Tryd.prog 9 := string_keyed Tryd.underlying9
theorem key_S (l : List UInt8) (h : l.length ≤ 4611686018427387904) : keyOf Tryd.prog 9 (S l) = some (.string l) :=
  keyOf_string_mk Tryd.underlying9 (by show l.toArray.size ≤ maxLen; unfold maxLen; simp; omega)
def ok0 (nm : List UInt8) (n : Nat) (sz : Int) : Bool := WX.nameB nm && (decide (1 ≤ sz) && (decide (sz ≤ 131072) && decide (n ≤ 8)))
theorem ok0_all (h : WX.Hr) : WX.okH h = (ok0 h.nm h.ds.length h.sz && h.ds.all WX.nameB) := by
  unfold WX.okH ok0
  cases WX.nameB h.nm <;> cases decide (1 ≤ h.sz) <;> cases decide (h.sz ≤ 131072) <;> simp
theorem take_all (ds : List (List UInt8)) (k : Nat) (h : k < ds.length) (p : List UInt8 → Bool) : (ds.take (k + 1)).all p = ((ds.take k).all p && p (ds.getD k [])) := by
  rw [List.take_succ_eq_append_getElem h, List.all_append]
  simp [List.getD, h]
theorem laidL_take (ds : List (List UInt8)) (k : Nat) (h : k < ds.length) : WX.laidL ((ds.take (k + 1)).map WX.devLn) = WX.laidL ((ds.take k).map WX.devLn) ++ (WX.devP ++ ds.getD k [] ++ [10]) := by
  rw [List.take_succ_eq_append_getElem h, List.map_append, WX.laidL_append]
  congr 1
  simp [WX.laidL, WX.devLn, List.getD, h]
theorem laidL_devs (ds : List (List UInt8)) (k : Nat) (h : ∀ d ∈ ds, d.length ≤ 24) : (WX.laidL ((ds.take k).map WX.devLn)).length ≤ 32 * k := by
  induction k with
  | zero => simp [WX.laidL]
  | succ k ih =>
    by_cases hk : k < ds.length
    · rw [laidL_take ds k hk]
      have := h _ (mem_getD1 ds k hk)
      have e : (WX.devP ++ ds.getD k [] ++ [10]).length = 7 + (ds.getD k []).length + 1 := by rw [List.length_append, List.length_append]; rfl
      rw [List.length_append, e]; omega
    · rw [List.take_of_length_le (by omega)]
      rw [List.take_of_length_le (by omega)] at ih
      omega
theorem headT_split (h : WX.Hr) : WX.headT h = (WX.nameP ++ h.nm ++ [10]) ++ WX.laidL (h.ds.map WX.devLn) ++ (WX.sizeP ++ Lib.decDigits h.sz.toNat ++ [10]) := by
  unfold WX.headT WX.headLs
  rw [WX.laidL_cons, WX.laidL_append]
  have : WX.laidL [WX.sizeLn h.sz] = WX.sizeP ++ Lib.decDigits h.sz.toNat ++ [10] := by simp [WX.laidL, WX.sizeLn]
  rw [this]
  simp [WX.nameLn]
theorem name_le {l : List UInt8} (h : WX.nameB l = true) : l.length ≤ 24 := by
  unfold WX.nameB at h
  simp only [Bool.and_eq_true, decide_eq_true_eq] at h
  exact h.1.1.1.2
end Go.Proofs.YtgdioalhlmnhhaaDoor
