/- Walks and lemmas on the program of this seat, used by its statements; each theorem bears its own conditions. -/
import Derived.Test.YtgdncdhalnijcaaGreatDoorMHJ
import Derived.Handy
import Derived.Recover
import Derived.Lib.ItoaNum
import Derived.OwnWalk
import Derived.Deep.AppendLies
import Derived.Lib.AppendIntMem
namespace Go.Proofs.YtgdncdhalnijcaaGreatDoor
open Go.RowKit
set_option linter.unusedVariables false
set_option linter.unusedSimpArgs false
section
set_option maxHeartbeats 8000000
set_option maxRecDepth 100000
/-! ### Parse: its two ends -/
abbrev IT : TypeId := 3
abbrev ET : TypeId := 26
theorem parse_res (W : World) (tmps : Array Value) (b : Nat) (x y z n e : Value) (hb : Blk W b #[x, y, z] HdT) (h1 : Blk W (b + 1) #[n] IT) (h2 : Blk W (b + 1 + 1) #[e] ET) (t2 : tmps.getD 2 undef = Ptr b) (t3 : tmps.getD 3 undef = Ptr (b + 1)) (t4 : tmps.getD 4 undef = Ptr (b + 1 + 1)) :
    (results Tryz.f28 tmps).run Tryz.prog W = .ok (.tuple #[.agg #[x, y, z], n, e]) W := by
  obtain ⟨c0, c1, c2⟩ := cells3 hb
  have d1 : W.cell? ⟨b + 1, 0, none⟩ = some n := cell_at h1 0
  have d2 : W.cell? ⟨b + 1 + 1, 0, none⟩ = some e := cell_at h2 0
  rw [Array.getD_eq_getD_getElem?] at t2 t3 t4
  simp [results, Tryz.results28, go_sem, t2, t3, t4, c0, c1, c2, d1, d2]
abbrev dfr (b : Nat) : List Deferred := [{ target := Target.fn (Fn.func 50) #[], args := #[Ptr b, Ptr (b + 1), Ptr (b + 1 + 1)] }]
theorem parse_done {w wr : World} {tmps : Array Value} {r : HR} {h : Hd} {n : Nat} {v1 v2 : Value} (hp : PA (w.heap.size + 1 + 1 + 1) wr w.heap.size #[I h.st, v1, v2] v1 h.ns v2 h.vs) (h1 : Blk wr (w.heap.size + 1) #[I n] IT) (h2 : Blk wr (w.heap.size + 1 + 1) #[I 0] ET)
    (hk : Kept [] w wr) (hr : r = .done h n) (t2 : tmps.getD 2 undef = Ptr w.heap.size) (t3 : tmps.getD 3 undef = Ptr (w.heap.size + 1)) (t4 : tmps.getD 4 undef = Ptr (w.heap.size + 1 + 1)) :
    bodyPostD Tryz.prog Tryz.f28 (ParsePost w r) .ret { tmps := tmps, defers := dfr w.heap.size } wr := by
  refine leaves_cons (f := 50) (args := #[Ptr w.heap.size, Ptr (w.heap.size + 1), Ptr (w.heap.size + 1 + 1)]) (by simp) (by simp [go_sem]) ?_
  refine (caught_idle _ _ _ _).mono ?_
  rintro e u' w'' ⟨rfl, rfl, k⟩
  have hq := hp.kept k
  have hres := parse_res w'' tmps w.heap.size _ _ _ _ _ hq.blk (h1.kept k (by simp)) (h2.kept k (by simp)) t2 t3 t4
  refine ⟨_, hres, ?_⟩
  exact ⟨v1, v2, by rw [hr]; rfl, by rw [hr]; exact hq.o1.mono (by omega), by rw [hr]; exact hq.o2.mono (by omega), hk.trans' k⟩
theorem parse_fail {w wr : World} {tmps : Array Value} {r : HR} {st n0 : Int} {e0 : Int} {e : Nat} {v1 v2 : Value} (h0 : Blk wr w.heap.size #[I st, v1, v2] HdT) (h1 : Blk wr (w.heap.size + 1) #[I n0] IT) (h2 : Blk wr (w.heap.size + 1 + 1) #[I e0] ET)
    (hk : Kept [] w wr) (hr : r = .fail e) (t2 : tmps.getD 2 undef = Ptr w.heap.size) (t3 : tmps.getD 3 undef = Ptr (w.heap.size + 1)) (t4 : tmps.getD 4 undef = Ptr (w.heap.size + 1 + 1)) :
    bodyPostD Tryz.prog Tryz.f28 (ParsePost w r) (.panic [{ v := Stop e, recovered := false }]) { tmps := tmps, defers := dfr w.heap.size } wr := by
  refine leaves_cons (f := 50) (args := #[Ptr w.heap.size, Ptr (w.heap.size + 1), Ptr (w.heap.size + 1 + 1)]) (by simp) (by simp [go_sem]) ?_
  refine (caught_stop w.heap.size st n0 e0 v1 v2 e wr h0 h1 h2).mono ?_
  rintro x u' w'' ⟨rfl, rfl, g0, g1, g2, k⟩
  have hres := parse_res w'' tmps w.heap.size _ _ _ _ _ g0 g1 g2 t2 t3 t4
  have hkw : Kept [] w w'' := hk.new k (fun x hx => by simp at hx; omega)
  have hpp : ParsePost w r (.returned (.tuple #[.agg #[I 0, nilV, nilV], I 0, I e])) w'' := by
    refine ⟨nilV, nilV, by rw [hr]; rfl, by rw [hr]; exact OwnT.nil _ _, by rw [hr]; exact OwnT.nil _ _, hkw⟩
  simp [Leaves, settle]
  exact ⟨_, hres, hpp⟩
end
section
set_option maxHeartbeats 8000000
set_option maxRecDepth 100000
/-! ### Itoa, Join, lines; what is asked -/
theorem var_kept {w w' : World} {n : String} {cs : Array Value} (h : w.var? Tryz.prog n = some cs) (k : Kept [] w w') : w'.var? Tryz.prog n = some cs := by
  unfold World.var? at *
  cases hg : Tryz.prog.globalNamed n with
  | none => rw [hg] at h; cases h
  | some g =>
    rw [hg] at h
    show (match w'.heap[g]? with | some (.cells cs _ _) => some cs | _ => none) = _
    change (match w.heap[g]? with | some (.cells cs _ _) => some cs | _ => none) = _ at h
    cases ho : w.heap[g]? with
    | none => rw [ho] at h; cases h
    | some o => rw [k.at ho (by simp)]; rw [ho] at h; exact h
abbrev PT (w : World) : Prop := Lib.TabIs Tryz.prog w "internal/strconv.uint64pow10" .u64 Lib.pow10Tab
theorem PT.kept {w w' : World} (h : PT w) (k : Kept [] w w') : PT w' := var_kept h k
theorem itoa_dec (n : Nat) : Lib.itoa (n : Int) = Lib.decDigits n := by unfold Lib.itoa; rw [if_neg (by omega)]; rfl
theorem itoa_any (n : Nat) (w : World) (hn : n ≤ 9223372036854775807) (hT : n < 100 ∨ PT w) :
    Calls Tryz.prog 48 #[I n] w fun e w' => e = .returned (S (Lib.decDigits n)) ∧ Kept [] w w' := by
  rcases hT with hT | hT
  · refine (Tryz.strconv_Itoa_small n hT w).mono ?_
    rintro e w' ⟨rfl, hw⟩
    exact ⟨by rw [← itoa_dec], by rw [hw]; exact Kept.refl _ _⟩
  · refine (Tryz.strconv_Itoa n (by omega) (by omega) w hT).mono ?_
    rintro e w' ⟨rfl, k, os, rfl⟩
    exact ⟨by rw [itoa_dec], Kept.of_below (Lib.below_grow _ w (Nat.le_refl _) k os) (Nat.le_refl _)⟩
theorem OwnT.new {B : Nat} {w : World} {b : Nat} {ns : List (List UInt8)} (h : w.heap[b]? = some (.cells (ns.map S).toArray 9 (0, 0))) (hb : B ≤ b) (hl : ns.length ≤ 1000) : OwnT B w (.slice (some ⟨b, 0, none⟩) ns.length ns.length) ns :=
  ⟨by simp, .inr ⟨b, ns.length, (ns.map S).toArray, rfl, hb, h, Nat.le_refl _, by unfold maxLen; omega, by simp, by simp; exact List.take_of_length_le (by simp)⟩⟩
theorem join_own {B : Nat} {w : World} {v : Value} {ns : List (List UInt8)} (sep : List UInt8) (h : OwnT B w v ns) (hl : ns.length ≤ 1000) (hlen : (sep.intercalate ns).length ≤ 140737488355328) :
    Calls Tryz.prog 79 #[v, S sep] w fun e w' => e = .returned (S (sep.intercalate ns)) ∧ Kept [] w w' := by
  rcases h.2 with ⟨rfl, h0⟩ | ⟨g, cap, cur, rfl, hb, hg, hnc, hcm, hsz, htake⟩
  · have : ns = [] := List.eq_nil_of_length_eq_zero h0
    subst this
    exact (Tryz.strings_Join_none none 0 ⟨sep.toArray⟩ w).mono fun e w' ⟨he, hw⟩ => ⟨he, by rw [hw]; exact Kept.refl _ _⟩
  · have e1 : ns.length = (ns.map fun l => (⟨l.toArray⟩ : ByteArray)).length := by simp
    have e2 : (ns.map fun l => (⟨l.toArray⟩ : ByteArray)).map (·.data.toList) = ns := by
      rw [List.map_map]; conv => rhs; rw [← List.map_id ns]
      apply List.map_congr_left; intro x _; rfl
    have := Tryz.strings_Join g 0 cap (ns.map fun l => (⟨l.toArray⟩ : ByteArray)) ⟨sep.toArray⟩ w (fun j x hx => by
      rw [List.getElem?_map] at hx
      have hj : j < ns.length := by
        rcases Nat.lt_or_ge j ns.length with h | h
        · exact h
        · rw [List.getElem?_eq_none h] at hx; cases hx
      rw [cell_at hg, Nat.zero_add]
      have h1 : (cur.toList.take (ns.length * 1))[j]? = some (S ns[j]) := by rw [htake]; simp [hj]
      rw [List.getElem?_take_of_lt (by omega)] at h1
      rw [← Array.getElem?_toList, h1]
      rw [List.getElem?_eq_getElem hj] at hx
      cases hx; rfl) (lt_of_block hg) (by rw [← e1]; omega) (by rw [← e1]; exact hnc) (by rw [e2]; exact hlen)
    rw [e2, ← e1] at this
    exact this.mono fun e w' ⟨he, hw⟩ => ⟨he, Kept.of_below hw (Nat.le_refl _)⟩
def linesL (ns : List (List UInt8)) : List UInt8 := ([13, 10] : List UInt8).intercalate ns ++ [13, 10]
theorem lines_own {B : Nat} {w : World} {v : Value} {ns : List (List UInt8)} (h : OwnT B w v ns) (hl : ns.length ≤ 1000) (hlen : (([13, 10] : List UInt8).intercalate ns).length ≤ 1000000) (o : List UInt8) (ho : linesL ns = o) :
    Calls Tryz.prog 49 #[v] w fun e w' => e = .returned (S o) ∧ Kept [] w w' := by
  have HJ := Lib.hid (join_own [13, 10] h hl (by omega))
  have HO := Lib.hid ho
  obtain ⟨t, ht⟩ : ∃ t, ([13, 10] : List UInt8).intercalate ns = t := ⟨_, rfl⟩
  rw [ht] at HJ hlen
  have HOT : Hid (o = t ++ [13, 10]) := Lib.hid (by rw [← ho, ← ht]; rfl)
  have hlen' : (t.length : Int) + 2 ≤ 1000002 := by omega
  clear ho ht h
  go_enter Tryz.func49, Tryz.ntmps49
  go_wp2_with (fail)
  refine HJ.out.mono ?_
  rintro e w1 ⟨rfl, k1⟩
  have K1 := Lib.hid k1
  clear k1
  go_wp2_with (fail)
  go_ret
  exact ⟨by rw [HOT.out] <;> rfl, K1.out⟩
def okA (host target : List UInt8) : Bool := visB host && (visB target && (byteAt target 0 == 47))
def clo : List UInt8 := [67, 111, 110, 110, 101, 99, 116, 105, 111, 110, 58, 32, 99, 108, 111, 115, 101]
def reqL (host target : List UInt8) (k : Nat) : List UInt8 := [71, 69, 84, 32] ++ target ++ [32, 72, 84, 84, 80, 47, 49, 46, 49, 13, 10, 72, 111, 115, 116, 58, 32] ++ host ++ [13, 10] ++ (if 0 < k then [82, 97, 110, 103, 101, 58, 32, 98, 121, 116, 101, 115, 61] ++ Lib.decDigits k ++ [45, 13, 10] else []) ++ (clo ++ [13, 10, 13, 10])
def repL (host target text : List UInt8) : List UInt8 := [80, 79, 83, 84, 32] ++ target ++ [32, 72, 84, 84, 80, 47, 49, 46, 49, 13, 10, 72, 111, 115, 116, 58, 32] ++ host ++ [13, 10, 67, 111, 110, 116, 101, 110, 116, 45, 76, 101, 110, 103, 116, 104, 58, 32] ++ Lib.decDigits text.length ++ ([13, 10] ++ clo ++ [13, 10, 13, 10]) ++ text
def reqF (host target : List UInt8) (k : Int) : List UInt8 × Nat := if okA host target && decide (0 ≤ k) then (reqL host target k.toNat, 0) else ([], 170)
def repF (host target text : List UInt8) : List UInt8 × Nat := if okA host target && decide (text.length ≤ 4096) then (repL host target text, 0) else ([], 170)
theorem vis_len {s : List UInt8} (h : visB s = true) : 1 ≤ s.length ∧ s.length ≤ 64 := by
  simp only [visB, Bool.and_eq_true, decide_eq_true_eq] at h; exact ⟨h.1.2, h.2⟩
theorem bne_byte (c : UInt8) (n : Nat) (hn : n < 256) (b : Bool) (h : (c == UInt8.ofNat n) = b) : ((c.toNat : Int) != (n : Int)) = !b := by rw [bne, byte_eqI c n hn b h]
theorem bne47 (c : UInt8) (b : Bool) (h : (c == 47) = b) : ((c.toNat : Int) != 47) = !b := bne_byte c 47 (by omega) b h
theorem dec_len20 (n : Nat) (h : n ≤ 9223372036854775807) : (Lib.decDigits n).length ≤ 19 := dec_len n 19 (by omega) (by omega)
end
section
set_option maxHeartbeats 8000000
set_option maxRecDepth 100000
/-! ### Request, Report -/
theorem request_any (host target : List UInt8) (k : Int) (w : World) (hk1 : -9223372036854775808 ≤ k) (hk2 : k ≤ 9223372036854775807) (hT : k < 100 ∨ PT w) (h1 : host.length ≤ 9223372036854775807) (h2 : target.length ≤ 9223372036854775807) (r : List UInt8 × Nat) (hr : reqF host target k = r) :
    Calls Tryz.prog 25 #[S host, S target, I k] w fun e w' => e = .returned (.tuple #[S r.1, I r.2]) ∧ Kept [] w w' := by
  have HR := Lib.hid hr
  clear hr
  have HVh := Lib.hid (vis_any host w h1)
  have HVt := Lib.hid (vis_any target w h2)
  obtain ⟨bh, hbh⟩ : ∃ b, visB host = b := ⟨_, rfl⟩
  obtain ⟨bt, hbt⟩ : ∃ b, visB target = b := ⟨_, rfl⟩
  obtain ⟨b0, hb0⟩ : ∃ b, (byteAt target 0 == 47) = b := ⟨_, rfl⟩
  rw [hbh] at HVh
  rw [hbt] at HVt
  have HOK : Hid (okA host target = (bh && (bt && b0))) := Lib.hid (by unfold okA; rw [hbh, hbt, hb0])
  have hb0' := bne47 _ b0 hb0
  have HLH : Hid (bh = true → 1 ≤ host.length ∧ host.length ≤ 64) := Lib.hid fun h => vis_len (by rw [hbh, h])
  have HLT : Hid (bt = true → 1 ≤ target.length ∧ target.length ≤ 64) := Lib.hid fun h => vis_len (by rw [hbt, h])
  clear hbh hbt hb0
  cases bh with
  | false =>
    have HF : Hid (r = ([], 170)) := Lib.hid (by rw [← HR.out]; unfold reqF; rw [HOK.out]; simp)
    go_enter Tryz.func25, Tryz.ntmps25
    go_wp2_with (first
      | (go_at_call 47; (with_reducible refine HVh.out.mono ?_); rintro x w5 ⟨rfl, rfl⟩)
      | (go_at_call 47; (with_reducible refine HVt.out.mono ?_); rintro x w5 ⟨rfl, rfl⟩))
    all_goals (go_returns; exact ⟨by rw [HF.out] <;> rfl, Kept.refl _ _⟩)
  | true =>
  cases bt with
  | false =>
    have HF : Hid (r = ([], 170)) := Lib.hid (by rw [← HR.out]; unfold reqF; rw [HOK.out]; simp)
    go_enter Tryz.func25, Tryz.ntmps25
    go_wp2_with (first
      | (go_at_call 47; (with_reducible refine HVh.out.mono ?_); rintro x w5 ⟨rfl, rfl⟩)
      | (go_at_call 47; (with_reducible refine HVt.out.mono ?_); rintro x w5 ⟨rfl, rfl⟩))
    all_goals (go_returns; exact ⟨by rw [HF.out] <;> rfl, Kept.refl _ _⟩)
  | true =>
  cases b0 with
  | false =>
    have HF : Hid (r = ([], 170)) := Lib.hid (by rw [← HR.out]; unfold reqF; rw [HOK.out]; simp)
    have htl := (HLT.out rfl).1
    have htl' : (1 : Int) ≤ target.length := by omega
    have htl2 : (0 : Int) < target.length := by omega
    have hb0'' : (((byteAt target 0).toNat : Int) != 47) = true := hb0'
    clear hb0'
    go_enter Tryz.func25, Tryz.ntmps25
    go_wp2_with (first
      | (go_at_call 47; (with_reducible refine HVh.out.mono ?_); rintro x w5 ⟨rfl, rfl⟩)
      | (go_at_call 47; (with_reducible refine HVt.out.mono ?_); rintro x w5 ⟨rfl, rfl⟩))
    all_goals (go_returns; exact ⟨by rw [HF.out] <;> rfl, Kept.refl _ _⟩)
  | true =>
  have htl := HLT.out rfl
  have htl2 : (0 : Int) < target.length := by omega
  have htl3 : (target.length : Int) ≤ 64 := by omega
  have hhl := HLH.out rfl
  have hhl3 : (host.length : Int) ≤ 64 := by omega
  have hb0'' : (((byteAt target 0).toNat : Int) != 47) = false := hb0'
  clear hb0'
  by_cases hk0 : 0 ≤ k
  case neg =>
    have HF : Hid (r = ([], 170)) := Lib.hid (by rw [← HR.out]; unfold reqF; rw [HOK.out, decide_eq_false hk0]; rfl)
    have hk0' : k < 0 := by omega
    go_enter Tryz.func25, Tryz.ntmps25
    go_wp2_with (first
      | (go_at_call 47; (with_reducible refine HVh.out.mono ?_); rintro x w5 ⟨rfl, rfl⟩)
      | (go_at_call 47; (with_reducible refine HVt.out.mono ?_); rintro x w5 ⟨rfl, rfl⟩))
    all_goals (go_returns; exact ⟨by rw [HF.out] <;> rfl, Kept.refl _ _⟩)
  have hk0' : ¬ k < 0 := by omega
  obtain ⟨n, rfl⟩ : ∃ n : Nat, k = (n : Int) := ⟨k.toNat, by omega⟩
  have HF : Hid (r = (reqL host target n, 0)) := Lib.hid (by rw [← HR.out]; unfold reqF; rw [HOK.out, decide_eq_true hk0]; rfl)
  have HTT : Hid (n < 100 ∨ PT w) := Lib.hid (hT.imp (fun h => by omega) id)
  obtain ⟨i0, hi, hz0, hz1, hz2⟩ := info_parts str_info
  obtain ⟨x1, hx1⟩ : ∃ x1, [71, 69, 84, 32] ++ target ++ [32, 72, 84, 84, 80, 47, 49, 46, 49] = x1 := ⟨_, rfl⟩
  obtain ⟨x2, hx2⟩ : ∃ x2, [72, 111, 115, 116, 58, 32] ++ host = x2 := ⟨_, rfl⟩
  have hx1l : x1.length ≤ 77 := by rw [← hx1]; simp; omega
  have hx2l : x2.length ≤ 70 := by rw [← hx2]; simp; omega
  have HX := Lib.hid (And.intro hx1 (And.intro hx2 (And.intro hx1l hx2l)))
  have HB2 : Hid (OwnT w.heap.size (w.alloc (.cells #[S x1, S x2] 9)) (.slice (some ⟨w.heap.size, 0, none⟩) 2 2) [x1, x2]) := Lib.hid (OwnT.new (ns := [x1, x2]) (heap_new w _) (Nat.le_refl _) (by simp))
  clear hT hx1l hx2l
  have hx1' : 71 :: 69 :: 84 :: 32 :: (target ++ [32, 72, 84, 84, 80, 47, 49, 46, 49]) = x1 := by rw [← hx1]; simp
  have hx2' : 72 :: 111 :: 115 :: 116 :: 58 :: 32 :: host = x2 := by rw [← hx2]; simp
  clear hx1 hx2
  obtain ⟨A, hA⟩ : ∃ A, w.alloc (.cells #[S x1, S x2] 9) = A := ⟨_, rfl⟩
  rw [hA] at HB2
  have HKA : Hid (Kept [] w A) := Lib.hid (by rw [← hA]; exact (Kept.refl _ _).alloc _)
  have HSA : Hid (A.heap.size = w.heap.size + 1) := Lib.hid (by rw [← hA]; simp)
  by_cases hn0 : 0 < n
  · have hn0' : (n : Int) > 0 := by omega
    obtain ⟨x3, hx3⟩ : ∃ x3, [82, 97, 110, 103, 101, 58, 32, 98, 121, 116, 101, 115, 61] ++ Lib.decDigits n ++ [45] = x3 := ⟨_, rfl⟩
    have HF2 : Hid (linesL [x1, x2, x3, clo, []] = reqL host target n) := Lib.hid (by rw [← hx1', ← hx2', ← hx3]; unfold reqL linesL; rw [if_pos hn0]; simp [List.intercalate, List.intersperse, clo])
    have hx3l : x3.length ≤ 40 := by rw [← hx3]; have := dec_len20 n (by omega); simp; omega
    have HL3 : Hid ((([13, 10] : List UInt8).intercalate [x1, x2, x3, clo, []]).length ≤ 1000000) := Lib.hid (by have := HX.out.2.2; simp [List.intercalate, List.intersperse, clo]; omega)
    have HIt := Lib.hid (itoa_any n A (by omega) (HTT.out.imp id (fun h => h.kept HKA.out)))
    have hx3' : 82 :: 97 :: 110 :: 103 :: 101 :: 58 :: 32 :: 98 :: 121 :: 116 :: 101 :: 115 :: 61 :: (Lib.decDigits n ++ [45]) = x3 := by rw [← hx3]; simp
    have hdl : ((Lib.decDigits n).length : Int) ≤ 19 := by have := dec_len20 n (by omega); omega
    obtain ⟨dd, hdd⟩ : ∃ dd, Lib.decDigits n = dd := ⟨_, rfl⟩
    rw [hdd] at HIt hx3' hdl
    clear hx3 hx3l hdd
    go_enter Tryz.func25, Tryz.ntmps25
    go_wp2_with (first
      | (go_at_call 47; (with_reducible refine HVh.out.mono ?_); rintro x w5 ⟨rfl, rfl⟩)
      | (go_at_call 47; (with_reducible refine HVt.out.mono ?_); rintro x w5 ⟨rfl, rfl⟩)
      | (go_at_call 48
         (with_reducible refine HIt.out.mono ?_)
         rintro x w5 ⟨rfl, k5⟩
         have HO5 := Lib.hid (And.intro (HB2.out.kept k5) (HKA.out.trans' k5))
         clear k5)
      | (at_builtin
         refine wpList_append_lies _ rfl (.tmp 34) (.tmp 39) _ rfl w.heap.size 9 i0 (.string ⟨#[]⟩) 1 16 Tryz.underlying51 hi hz0 hz1 hz2 rfl (by decide) (.slice (some ⟨w.heap.size, 0, none⟩) 2 2) 2 [S x1, S x2] rfl (HO5.out.1.kept ((Kept.refl _ _).alloc _)) ⟨w5.heap.size, 0, none⟩ 1 1 [S x3] rfl rfl (World.news_of_block (heap_new w5 _)) (by intro u hu; simp at hu; rcases hu with rfl; rfl) (by decide) (by unfold maxLen; omega) (by omega) (by have := HO5.out.2.size; simp; omega) _ rfl ?_
         intro g cap wa own1 gr1 hat hlt
         have HOA : Hid (OwnT w.heap.size wa (.slice (some ⟨g, 0, none⟩) (2 + 1) cap) [x1, x2, x3]) := Lib.hid own1
         have HKA2 : Hid (Kept [] w wa) := Lib.hid ((HO5.out.2.alloc (.cells #[S x3] 9)).grown gr1 (fun q hq => by cases hq; exact Nat.le_refl _))
         clear own1 gr1 hat hlt)
      | (at_builtin
         refine wpList_append_lies _ rfl (.tmp 41) (.tmp 42) _ rfl w.heap.size 9 i0 (.string ⟨#[]⟩) 1 16 Tryz.underlying51 hi hz0 hz1 hz2 rfl (by decide) (.slice (some ⟨g, 0, none⟩) (2 + 1) cap) 3 [S x1, S x2, S x3] rfl (HOA.out.kept ((Kept.refl _ _).alloc _)) ⟨wa.heap.size, 0, none⟩ 2 2 [S clo, S []] rfl rfl (World.news_of_block (heap_new wa _)) (by intro u hu; simp at hu; rcases hu with rfl | rfl <;> rfl) (by decide) (by unfold maxLen; omega) (by omega) (by have := HKA2.out.size; simp; omega) _ rfl ?_
         intro g2 cap2 wb own2 gr2 hat2 hlt2
         have HO := Lib.hid own2
         have HKW : Hid (Kept [] w wb) := Lib.hid ((HKA2.out.alloc (.cells #[S clo, S []] 9)).grown gr2 (fun q hq => by have := (HOA.out.lt q hq).1; omega))
         clear own2 gr2 hat2 hlt2))
    have HOT : OwnT w.heap.size wb (.slice (some ⟨g2, 0, none⟩) 5 cap2) [x1, x2, x3, clo, []] := HO.out
    refine (lines_own HOT (by simp) HL3.out _ HF2.out).mono ?_
    rintro e w6 ⟨rfl, k6⟩
    have HK6 := Lib.hid (HKW.out.trans' k6)
    clear k6 HOT
    go_wp2_with (fail)
    go_returns
    exact ⟨by rw [HF.out] <;> rfl, HK6.out⟩
  · have hn0' : ¬ (n : Int) > 0 := by omega
    have HF2 : Hid (linesL [x1, x2, clo, []] = reqL host target n) := Lib.hid (by rw [← hx1', ← hx2']; unfold reqL linesL; rw [if_neg hn0]; simp [List.intercalate, List.intersperse, clo])
    have HL3 : Hid ((([13, 10] : List UInt8).intercalate [x1, x2, clo, []]).length ≤ 1000000) := Lib.hid (by have := HX.out.2.2; simp [List.intercalate, List.intersperse, clo]; omega)
    go_enter Tryz.func25, Tryz.ntmps25
    go_wp2_with (first
      | (go_at_call 47; (with_reducible refine HVh.out.mono ?_); rintro x w5 ⟨rfl, rfl⟩)
      | (go_at_call 47; (with_reducible refine HVt.out.mono ?_); rintro x w5 ⟨rfl, rfl⟩)
      | (at_builtin
         refine wpList_append_lies _ rfl (.tmp 41) (.tmp 42) _ rfl w.heap.size 9 i0 (.string ⟨#[]⟩) 1 16 Tryz.underlying51 hi hz0 hz1 hz2 rfl (by decide) (.slice (some ⟨w.heap.size, 0, none⟩) 2 2) 2 [S x1, S x2] rfl (HB2.out.kept ((Kept.refl _ _).alloc _)) ⟨A.heap.size, 0, none⟩ 2 2 [S clo, S []] rfl rfl (World.news_of_block (heap_new A _)) (by intro u hu; simp at hu; rcases hu with rfl | rfl <;> rfl) (by decide) (by unfold maxLen; omega) (by omega) (by have := HSA.out; simp; omega) _ rfl ?_
         intro g cap wa own1 gr1 hat hlt
         have HO := Lib.hid own1
         have HKW : Hid (Kept [] w wa) := Lib.hid ((HKA.out.alloc (.cells #[S clo, S []] 9)).grown gr1 (fun q hq => by cases hq; exact Nat.le_refl _))
         clear own1 gr1 hat hlt))
    have HOT : OwnT w.heap.size wa (.slice (some ⟨g, 0, none⟩) 4 cap) [x1, x2, clo, []] := HO.out
    refine (lines_own HOT (by simp) HL3.out _ HF2.out).mono ?_
    rintro e w6 ⟨rfl, k6⟩
    have HK6 := Lib.hid (HKW.out.trans' k6)
    clear k6 HOT
    go_wp2_with (fail)
    go_returns
    exact ⟨by rw [HF.out] <;> rfl, HK6.out⟩
end
end Go.Proofs.YtgdncdhalnijcaaGreatDoor
