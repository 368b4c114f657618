/- Walks and lemmas on the program of this seat, used by its statements; each theorem bears its own conditions. -/
import Derived.Test.YtgdncdhalnijcaaGreatDoorMHE
import Derived.Test.YtgdncdhalnijcaaGreatDoorMGen
import Derived.Handy
import Derived.OwnWalk
import Derived.Deep.AppendLies
namespace Go.Proofs.YtgdncdhalnijcaaGreatDoor
open Go.RowKit
set_option linter.unusedVariables false
set_option linter.unusedSimpArgs false
section
set_option maxHeartbeats 8000000
set_option maxRecDepth 100000
/-! ### Get -/
/-! ### Lists of strings in memory; a head -/
def StrsAt (w : World) (v : Value) (ss : List (List UInt8)) : Prop :=
  ∃ (p : Option Addr) (cap : Nat), v = .slice p ss.length cap ∧ ss.length ≤ 9223372036854775807 ∧ (ss ≠ [] → ∃ b off, p = some ⟨b, off, none⟩ ∧ ∀ (i : Nat) (h : i < ss.length), w.cell? ⟨b, off + i, none⟩ = some (S ss[i]))
theorem StrsAt.kept {w w' : World} {v : Value} {ss : List (List UInt8)} (h : StrsAt w v ss) (k : Kept [] w w') : StrsAt w' v ss := by
  obtain ⟨p, cap, hv, hl, hc⟩ := h
  refine ⟨p, cap, hv, hl, fun hne => ?_⟩
  obtain ⟨b, off, hp, hcell⟩ := hc hne
  exact ⟨b, off, hp, fun i hi => by rw [k.cell (World.block_lt_of_cell? w _ (hcell i hi)) (by simp)]; exact hcell i hi⟩
theorem S_inj {a b : List UInt8} (h : S a = S b) : a = b := by
  have h1 : (⟨a.toArray⟩ : ByteArray) = ⟨b.toArray⟩ := by injection h
  have h2 : a.toArray = b.toArray := by injection h1
  exact congrArg Array.toList h2

/-- 'head.Get' -/
def getF (names values : List (List UInt8)) (name : List UInt8) : List UInt8 × Nat :=
  ((match names.findIdx? (· == name) with | some i => values.getD i [] | none => []), names.count name)
theorem findIdx?_snoc {p : List UInt8 → Bool} (l : List (List UInt8)) (x : List UInt8) : (l ++ [x]).findIdx? p = match l.findIdx? p with | some i => some i | none => if p x then some l.length else none := by
  rw [List.findIdx?_append]
  cases h : l.findIdx? p with
  | some i => simp
  | none => simp
theorem getF_no (l values : List (List UInt8)) (x name : List UInt8) (h : x ≠ name) : getF (l ++ [x]) values name = getF l values name := by
  unfold getF
  rw [findIdx?_snoc, List.count_append]
  have h1 : (x == name) = false := by simpa using h
  cases l.findIdx? (· == name) <;> simp [h1, h]
theorem getF_again (l values : List (List UInt8)) (name : List UInt8) (h : 0 < (getF l values name).2) : getF (l ++ [name]) values name = ((getF l values name).1, (getF l values name).2 + 1) := by
  unfold getF at h ⊢
  simp only at h
  rw [findIdx?_snoc, List.count_append]
  have hm : name ∈ l := List.count_pos_iff.1 h
  cases hf : l.findIdx? (· == name) with
  | some i => simp
  | none => simp [List.findIdx?_eq_none_iff] at hf; exact absurd rfl (hf name hm)
theorem getF_first (l values : List (List UInt8)) (name : List UInt8) (h : (getF l values name).2 = 0) : getF (l ++ [name]) values name = (values.getD l.length [], 1) ∧ (getF l values name).1 = [] := by
  unfold getF at h ⊢
  simp only at h
  have hm : name ∉ l := List.count_eq_zero.1 h
  have hf : l.findIdx? (· == name) = none := by rw [List.findIdx?_eq_none_iff]; intro x hx; simp; rintro rfl; exact hm hx
  rw [findIdx?_snoc, List.count_append]
  simp [hf, h]
theorem getF_le (l values : List (List UInt8)) (name : List UInt8) : (getF l values name).2 ≤ l.length := List.count_le_length

def GetRel (names values : List (List UInt8)) (name : List UInt8) (w : World) (v n i : Value) (wr : World) : Prop :=
  ∃ k : Nat, k ≤ names.length ∧ i = I k ∧ v = S (getF (names.take k) values name).1 ∧ n = I (getF (names.take k) values name).2 ∧ Kept [] w wr


theorem get_any (st : Int) (nv vv : Value) (names values : List (List UInt8)) (name : List UInt8) (w : World) (hn : StrsAt w nv names) (hv : StrsAt w vv values) :
    Calls Tryz.prog 93 #[.agg #[I st, nv, vv], S name] w fun e w' => e = .returned (.tuple #[S (getF names values name).1, I (getF names values name).2]) ∧ Kept [] w w' := by
  have HN := hn
  have HV := hv
  obtain ⟨pn, cn, rfl, hnl, hnc⟩ := hn
  obtain ⟨pv, cv, rfl, hvl, hvc⟩ := hv
  have hnl' : (names.length : Int) ≤ 9223372036854775807 := by omega
  have hvl' : (values.length : Int) ≤ 9223372036854775807 := by omega
  have Hn := Lib.hid hnc
  have Hv := Lib.hid hvc
  clear hnc hvc
  go_enter Tryz.func93, Tryz.ntmps93
  go_wp2_with (fail)
  go_loop [6, 7, 13] (fun v n i => ∃ k : Nat, k ≤ names.length ∧ i = I k ∧ v = S (getF (names.take k) values name).1 ∧ n = I (getF (names.take k) values name).2) (fun _ _ i => names.length - (intOf i).toNat)
  case atStart => exact ⟨0, by omega, rfl, rfl, rfl⟩
  case round =>
    obtain ⟨k, hk, rfl, rfl, rfl⟩ := hrel
    have hgl := getF_le (names.take k) values name
    have hgl' : (getF (names.take k) values name).2 ≤ k := by rw [List.length_take] at hgl; omega
    clear hgl
    by_cases hlt : k < names.length
    · obtain ⟨bn, on, rfl, hcn⟩ := Hn.out (by intro h; rw [h] at hlt; simp at hlt)
      have hc := hcn k hlt
      have hbn : bn < w.heap.size := World.block_lt_of_cell? w _ hc
      have hts : names.take (k + 1) = names.take k ++ [names[k]] := by rw [List.take_succ_eq_append_getElem hlt]
      generalize hx : names[k] = x at *
      obtain ⟨v, m, hvm⟩ : ∃ v m, getF (names.take k) values name = (v, m) := ⟨_, _, rfl⟩
      rw [hvm] at hgl' ⊢
      simp only at hgl' ⊢
      have hlk : (names.take k).length = k := by simp; omega
      have HTS := Lib.hid hts
      have HX := Lib.hid hx
      have HVM := Lib.hid hvm
      have HLK := Lib.hid hlk
      clear hts hx hcn hvm hlk
      by_cases hxe : x = name
      · by_cases hm : m = 0
        · by_cases hkv : k < values.length
          · obtain ⟨bv, ov, rfl, hcv⟩ := Hv.out (by intro h; rw [h] at hkv; simp at hkv)
            have hd := hcv k hkv
            have hbv : bv < w.heap.size := World.block_lt_of_cell? w _ hd
            have HD : Hid (getF (names.take (k + 1)) values name = (values[k], 1)) := by
              have h1 := getF_first (names.take k) values name (by rw [HVM.out]; exact hm)
              unfold Hid
              rw [HTS.out, hxe, h1.1, HLK.out]
              simp [hkv]
            generalize hy : values[k] = y at *
            clear hcv hy
            subst hxe hm
            go_wp2_with (fail)
            go_round
            case rel => exact ⟨k + 1, by omega, by go_num, by rw [HD.out], by rw [HD.out]; rfl⟩
            case measure => simp [intOf]; omega
          · have HD : Hid (getF (names.take (k + 1)) values name = (v, 1)) := by
              have h1 := getF_first (names.take k) values name (by rw [HVM.out]; exact hm)
              have h2 := h1.2
              rw [HVM.out] at h2
              unfold Hid
              rw [HTS.out, hxe, h1.1, HLK.out]
              simp at h2
              rw [h2, List.getD_eq_getElem?_getD, List.getElem?_eq_none (by omega)]
              rfl
            subst hxe hm
            go_wp2_with (fail)
            go_round
            case rel => exact ⟨k + 1, by omega, by go_num, by rw [HD.out], by rw [HD.out]; rfl⟩
            case measure => simp [intOf]; omega
        · have HD : Hid (getF (names.take (k + 1)) values name = (v, m + 1)) := by
            have h1 := getF_again (names.take k) values name (by rw [HVM.out]; simp only; omega)
            unfold Hid
            rw [HTS.out, hxe, h1, HVM.out]
          have hm0 : ((m : Int) == 0) = false := by simp; omega
          subst hxe
          go_wp2_with (fail)
          go_round
          case rel => exact ⟨k + 1, by omega, by go_num, by rw [HD.out], by rw [HD.out]; go_num⟩
          case measure => simp [intOf]; omega
      · have HD : Hid (getF (names.take (k + 1)) values name = (v, m)) := by
          unfold Hid
          rw [HTS.out, getF_no _ _ _ _ hxe, HVM.out]
        have hxb : (x == name) = false := by simpa using hxe
        clear hxe
        go_wp2_with (fail)
        go_round
        case rel => exact ⟨k + 1, by omega, by go_num, by rw [HD.out], by rw [HD.out]⟩
        case measure => simp [intOf]; omega
    · go_wp2_with (fail)
      go_ret2
      have : names.take k = names := List.take_of_length_le (by omega)
      rw [this]
      exact ⟨rfl, (Kept.refl _ _).alloc _⟩
theorem StrsAt.of_texts {w : World} {v : Value} {ss : List (List UInt8)} (h : TextsAt w v ss) : StrsAt w v ss := by
  obtain ⟨p, cap, hv, hl, hc⟩ := h
  refine ⟨p, cap, hv, hl, fun hne => ?_⟩
  obtain ⟨b, off, hp, hcell⟩ := hc hne
  exact ⟨b, off, hp, fun i hi => by rw [hcell i hi]; simp [List.getD, hi]⟩
theorem count_two (l : List (List UInt8)) (x : List UInt8) (i j : Nat) (hij : i < j) (hj : j < l.length) (h1 : l[i] = x) (h2 : l[j] = x) : 2 ≤ l.count x := by
  have m1 : x ∈ l.take (i + 1) := by rw [← h1]; exact List.mem_take_iff_getElem.2 ⟨i, by omega, rfl⟩
  have m2 : x ∈ l.drop (i + 1) := by rw [← h2]; exact List.mem_drop_iff_getElem.2 ⟨j - (i + 1), by omega, by congr 1; omega⟩
  have c1 := List.count_pos_iff.2 m1
  have c2 := List.count_pos_iff.2 m2
  rw [← List.take_append_drop (i + 1) l, List.count_append]
  omega
theorem get_at (ns vs : List (List UInt8)) (i : Nat) (hi : i < ns.length) (hl : ns.length = vs.length) :
    1 ≤ (getF ns vs (ns.getD i [])).2 ∧ ((getF ns vs (ns.getD i [])).2 = 1 → (getF ns vs (ns.getD i [])).1 = vs.getD i []) := by
  have hx : ns.getD i [] = ns[i] := by simp [List.getD, hi]
  rw [hx]
  have hm : ns[i] ∈ ns := List.getElem_mem _
  unfold getF
  simp only
  refine ⟨List.count_pos_iff.2 hm, fun h1 => ?_⟩
  cases hf : ns.findIdx? (· == ns[i]) with
  | none => simp [List.findIdx?_eq_none_iff] at hf; exact absurd rfl (hf _ hm)
  | some j =>
    simp only
    rw [List.findIdx?_eq_some_iff_getElem] at hf
    obtain ⟨hj, hje, _⟩ := hf
    have hje' : ns[j] = ns[i] := by simpa using hje
    by_cases hij : j = i
    · rw [hij]
    · exfalso
      have h2 : 2 ≤ ns.count ns[i] := by
        rcases Nat.lt_or_gt_of_ne hij with h | h
        · exact count_two ns ns[i] j i h hi hje' rfl
        · exact count_two ns ns[i] i j h hj rfl hje'
      omega
def sameH (a b : Hd) : Bool := a.st == b.st && (a.ns == b.ns && a.vs == b.vs)
theorem take_getD' (l : List (List UInt8)) (i : Nat) (h : i < l.length) : l.take (i + 1) = l.take i ++ [l.getD i []] := by
  rw [List.take_succ_eq_append_getElem h]; simp [List.getD, h]
theorem cells3 {w : World} {b : Nat} {x y z : Value} {t : TypeId} (h : w.heap[b]? = some (.cells #[x, y, z] t (0, 0))) : w.cell? ⟨b, 0, none⟩ = some x ∧ w.cell? ⟨b, 1, none⟩ = some y ∧ w.cell? ⟨b, 2, none⟩ = some z := ⟨cell_at h 0, cell_at h 1, cell_at h 2⟩

theorem ne_of_getD (a b : List (List UInt8)) (i : Nat) (h : a.getD i [] ≠ b.getD i []) : a ≠ b := by intro e; subst e; exact h rfl
theorem bne_nat (a b : Nat) : ((a : Int) != (b : Int)) = (a != b) := by
  rw [Bool.eq_iff_iff, bne_iff_ne, bne_iff_ne]; omega
end
section
set_option maxHeartbeats 8000000
set_option maxRecDepth 100000
/-! ### A head in memory, its two rows the call's own -/
abbrev HdT : TypeId := 53
abbrev nilV : Value := .slice none 0 0
def OwnT (B : Nat) (w : World) (v : Value) (l : List (List UInt8)) : Prop := w.ownsRow B 9 1 v l.length (l.map S)
theorem OwnT.nil (B : Nat) (w : World) : OwnT B w nilV [] := ⟨rfl, .inl ⟨rfl, rfl⟩⟩
theorem OwnT.keptS {B : Nat} {w w' : World} {v : Value} {l : List (List UInt8)} {T : List Nat} (h : OwnT B w v l) (k : Kept T w w') (hs : ∀ x ∈ T, x < B) : OwnT B w' v l := by
  refine ⟨h.1, ?_⟩
  rcases h.2 with h0 | ⟨g, cap, cur, e, hb, hg, hr⟩
  · exact .inl h0
  · exact .inr ⟨g, cap, cur, e, hb, k.at hg (fun hm => by have := hs g hm; omega), hr⟩
theorem OwnT.kept {B : Nat} {w w' : World} {v : Value} {l : List (List UInt8)} (h : OwnT B w v l) (k : Kept [] w w') : OwnT B w' v l := h.keptS k (by simp)
theorem OwnT.mono {B B' : Nat} {w : World} {v : Value} {l : List (List UInt8)} (h : OwnT B w v l) (hb : B' ≤ B) : OwnT B' w v l := by
  refine ⟨h.1, ?_⟩
  rcases h.2 with h0 | ⟨g, cap, cur, e, hg, hr⟩
  · exact .inl h0
  · exact .inr ⟨g, cap, cur, e, Nat.le_trans hb hg, hr⟩
theorem OwnT.lt {B : Nat} {w : World} {v : Value} {l : List (List UInt8)} (h : OwnT B w v l) : ∀ q, v.ownBlock = some q → B ≤ q ∧ q < w.heap.size := by
  intro q hq
  rcases h.2 with ⟨rfl, hn⟩ | ⟨g, cap, cur, rfl, hb, hg, _⟩
  · cases hq
  · cases hq; exact ⟨hb, lt_of_block hg⟩
theorem OwnT.grown {B : Nat} {w w' : World} {v : Value} {l : List (List UInt8)} {row : Option Nat} (h : OwnT B w v l) (g : w.grownBy w' row) (hr : ∀ q, v.ownBlock = some q → row ≠ some q) : OwnT B w' v l := by
  refine ⟨h.1, ?_⟩
  have hlt := h.lt
  rcases h.2 with h0 | ⟨q, cap, cur, e, hb, hg, hx⟩
  · exact .inl h0
  · have hq : v.ownBlock = some q := by rw [e]; rfl
    exact .inr ⟨q, cap, cur, e, hb, (g.block q (hlt q hq).2 (fun e2 => hr q hq e2.symm)).trans hg, hx⟩
theorem OwnT.texts {B : Nat} {w : World} {v : Value} {l : List (List UInt8)} (h : OwnT B w v l) (hl : l.length ≤ 9223372036854775807) : TextsAt w v l := by
  rcases h.2 with ⟨rfl, hn⟩ | ⟨g, cap, cur, rfl, hb, hg, hnc, _, hsz, htake⟩
  · have : l = [] := List.eq_nil_of_length_eq_zero hn
    subst this
    exact ⟨none, 0, rfl, by simp, fun h => absurd rfl h⟩
  · refine ⟨_, cap, rfl, hl, fun _ => ⟨g, 0, rfl, fun i hi => ?_⟩⟩
    rw [cell_at hg, Nat.zero_add]
    have h1 : (cur.toList.take (l.length * 1))[i]? = some (S (l.getD i [])) := by rw [htake]; simp [List.getD, hi]
    rw [List.getElem?_take_of_lt (by omega)] at h1
    rw [← Array.getElem?_toList]; exact h1
structure PA (B : Nat) (w : World) (b : Nat) (cs : Array Value) (v1 : Value) (ns : List (List UInt8)) (v2 : Value) (vs : List (List UInt8)) : Prop where
  blk : Blk w b cs HdT
  o1 : OwnT B w v1 ns
  o2 : OwnT B w v2 vs
  ne : ∀ g, v1.ownBlock = some g → v2.ownBlock ≠ some g
  lt : b < B
section
variable {B b : Nat} {w : World} {cs : Array Value} {v1 v2 : Value} {ns vs : List (List UInt8)}
theorem PA.kept {w' : World} (h : PA B w b cs v1 ns v2 vs) (k : Kept [] w w') : PA B w' b cs v1 ns v2 vs := ⟨h.blk.kept k (by simp), h.o1.kept k, h.o2.kept k, h.ne, h.lt⟩
theorem Kept.set1 (w : World) (p : Addr) (v : Value) : Kept [p.block] w (w.setCell p v) := (Kept.refl [p.block] w).setCell (.inl (by simp)) v
theorem PA.other {c o : Nat} {u : Value} (h : PA B w b cs v1 ns v2 vs) (hc : c ≠ b) (hB : c < B) : PA B (w.setCell ⟨c, o, none⟩ u) b cs v1 ns v2 vs :=
  ⟨h.blk.other c o u hc, h.o1.keptS (Kept.set1 w ⟨c, o, none⟩ u) (by simp; exact hB), h.o2.keptS (Kept.set1 w ⟨c, o, none⟩ u) (by simp; exact hB), h.ne, h.lt⟩
theorem PA.set (h : PA B w b cs v1 ns v2 vs) (o : Nat) (u : Value) : PA B (w.setCell ⟨b, o, none⟩ u) b (cs.setIfInBounds o u) v1 ns v2 vs :=
  ⟨h.blk.set o u, h.o1.keptS (Kept.set1 w ⟨b, o, none⟩ u) (by simp; exact h.lt), h.o2.keptS (Kept.set1 w ⟨b, o, none⟩ u) (by simp; exact h.lt), h.ne, h.lt⟩
theorem Blk.grown {t : TypeId} {w' : World} {row : Option Nat} (h : Blk w b cs t) (g : w.grownBy w' row) (hr : row ≠ some b) : Blk w' b cs t :=
  (g.block b (lt_of_block h) (fun e => hr e.symm)).trans h
theorem PA.app1 {wa : World} {x : List UInt8} {g cap : Nat} (h : PA B w b cs v1 ns v2 vs) (own : wa.ownsRow B 9 1 (.slice (some ⟨g, 0, none⟩) (ns.length + 1) cap) (ns.length + 1) (ns.map S ++ [S x])) (gr : w.grownBy wa v1.ownBlock)
    (hat : v1.ownBlock = some g ∨ g = w.heap.size) : PA B wa b cs (.slice (some ⟨g, 0, none⟩) (ns.length + 1) cap) (ns ++ [x]) v2 vs := by
  refine ⟨h.blk.grown gr (fun e => by have := (h.o1.lt b e).1; have := h.lt; omega), by unfold OwnT; simpa using own, h.o2.grown gr (fun q hq e => h.ne q e hq), ?_, h.lt⟩
  intro q hq e
  have hq' : g = q := by injection hq
  subst hq'
  rcases hat with hat | hat
  · exact h.ne g hat e
  · have := (h.o2.lt g e).2; omega
theorem PA.app2 {wa : World} {x : List UInt8} {g cap : Nat} (h : PA B w b cs v1 ns v2 vs) (own : wa.ownsRow B 9 1 (.slice (some ⟨g, 0, none⟩) (vs.length + 1) cap) (vs.length + 1) (vs.map S ++ [S x])) (gr : w.grownBy wa v2.ownBlock)
    (hat : v2.ownBlock = some g ∨ g = w.heap.size) : PA B wa b cs v1 ns (.slice (some ⟨g, 0, none⟩) (vs.length + 1) cap) (vs ++ [x]) := by
  refine ⟨h.blk.grown gr (fun e => by have := (h.o2.lt b e).1; have := h.lt; omega), h.o1.grown gr (fun q hq e => h.ne q hq e), by unfold OwnT; simpa using own, ?_, h.lt⟩
  intro q hq e
  have hq' : g = q := by injection e
  subst hq'
  rcases hat with hat | hat
  · exact h.ne g hq hat
  · have := (h.o1.lt g hq).2; omega
theorem Kept.grown {a w w' : World} {row : Option Nat} (h : Kept [] a w) (g : w.grownBy w' row) (hr : ∀ k, row = some k → a.heap.size ≤ k) : Kept [] a w' :=
  ⟨g.os.trans h.os, g.tape.trans h.tape, g.output.trans h.output, Nat.le_trans h.size g.size, fun k hk hn =>
    (g.block k (by have := h.size; omega) (fun e => by have := hr k e.symm; omega)).trans (h.block k hk hn)⟩
theorem PA.cells {x y z : Value} (h : PA B w b #[x, y, z] v1 ns v2 vs) : w.cell? ⟨b, 0, none⟩ = some x ∧ w.cell? ⟨b, 1, none⟩ = some y ∧ w.cell? ⟨b, 2, none⟩ = some z := cells3 h.blk
theorem PA.free (h : PA B w b cs v1 ns v2 vs) (i : Nat) : w.frozen? ⟨b, i, none⟩ = false := free_at h.blk i
theorem PA.hlt (h : PA B w b cs v1 ns v2 vs) : b < w.heap.size := lt_of_block h.blk
end
theorem Blk.free {w : World} {b : Nat} {cs : Array Value} {t : TypeId} (h : Blk w b cs t) (i : Nat) : w.frozen? ⟨b, i, none⟩ = false := free_at h i
theorem str_info : (Tryz.prog.info? 9).map (fun i => (i.zero, i.size, i.bytes)) = some (some (.string ⟨#[]⟩), 1, 16) := by kernel_rfl
theorem S_one (ss : List (List UInt8)) : ∀ u ∈ ss.map S, u.oneCell' = true := by
  intro u hu
  obtain ⟨x, _, rfl⟩ := List.mem_map.1 hu
  rfl
def ParsePost (w : World) (r : HR) (e : Ending) (w' : World) : Prop :=
  ∃ v1 v2, e = .returned (.tuple #[.agg #[I r.head.st, v1, v2], I r.many, I r.err]) ∧ OwnT w.heap.size w' v1 r.head.ns ∧ OwnT w.heap.size w' v2 r.head.vs ∧ Kept [] w w'
theorem endZ_none {s : List UInt8} {n : Nat} (h : crlf (s.drop n) = none) : endZ s n = -1 := by unfold endZ; rw [h]
theorem endZ_some {s : List UInt8} {n i : Nat} (h : crlf (s.drop n) = some i) : endZ s n = ((n + i : Nat) : Int) := by unfold endZ; rw [h]
theorem lenCR_drop (s : List UInt8) (n : Nat) (hn : n ≤ s.length) : lenCR (s.drop n) = if n < s.length ∧ byteAt s (s.length - 1) = 13 then s.length - n - 1 else s.length - n := by
  unfold lenCR
  rw [List.length_drop, byteAt_drop]
  by_cases h : n < s.length
  · have e : n + (s.length - n - 1) = s.length - 1 := by omega
    rw [e]
    by_cases h2 : byteAt s (s.length - 1) = 13
    · rw [if_pos ⟨by omega, h2⟩, if_pos ⟨h, h2⟩]
    · rw [if_neg (fun x => h2 x.2), if_neg (fun x => h2 x.2)]
  · rw [if_neg (fun x => h (by omega)), if_neg (fun x => h x.1)]
theorem OwnT.form {B : Nat} {w : World} {v : Value} {l : List (List UInt8)} (h : OwnT B w v l) : ∃ p c, v = .slice p l.length c := by
  rcases h.2 with ⟨rfl, hn⟩ | ⟨g, cap, cur, rfl, _⟩
  · exact ⟨none, 0, by rw [hn]⟩
  · exact ⟨_, _, rfl⟩
end
section
theorem turn_none {s : List UInt8} {h : Hd} {n : Nat} (hc : crlf (s.drop n) = none) : turnF s h n = .fail (if lenCR (s.drop n) ≤ 256 ∧ s.length < 2048 then 172 else 171) := by unfold turnF; rw [hc]
theorem turn_some {s : List UInt8} {h : Hd} {n i : Nat} (hc : crlf (s.drop n) = some i) : turnF s h n = if 256 < i ∨ 2048 < n + i + 2 then .fail 171
    else if h.st = 0 then (if statF ((s.drop n).take i) = 0 then .fail 170 else .on ⟨statF ((s.drop n).take i), h.ns, h.vs⟩ (n + i + 2))
    else if i = 0 then .done h (n + 2) else fieldF ((s.drop n).take i) h (n + i + 2) := by
  conv => lhs; unfold turnF
  rw [hc]
end
end Go.Proofs.YtgdncdhalnijcaaGreatDoor
