/- Walks and lemmas on the program of this seat, used by its statements; each theorem bears its own conditions. -/
import Derived.Test.YtgdioalhlmnhhaaDoorHL
import Derived.Handy
import Derived.Lib.ItoaNum
import Derived.OwnWalk
import Derived.Deep.AppendLies
import Derived.Lib.AppendIntMem
namespace Go.Proofs.YtgdioalhlmnhhaaDoor
open Go.RowKit
set_option linter.unusedVariables false
set_option linter.unusedSimpArgs false
set_option maxHeartbeats 8000000
set_option maxRecDepth 100000
/-! ### Itoa, Join, lines; what is asked -/
theorem var_kept {w w' : World} {n : String} {cs : Array Value} (h : w.var? Tryd.prog n = some cs) (k : Kept [] w w') : w'.var? Tryd.prog n = some cs := by
  unfold World.var? at *
  cases hg : Tryd.prog.globalNamed n with
  | none => rw [hg] at h; cases h
  | some g =>
    rw [hg] at h
    show (match w'.heap[g]? with | some (.cells cs _ _) => some cs | _ => none) = _
    change (match w.heap[g]? with | some (.cells cs _ _) => some cs | _ => none) = _ at h
    cases ho : w.heap[g]? with
    | none => rw [ho] at h; cases h
    | some o => rw [k.at ho (by simp)]; rw [ho] at h; exact h
abbrev PT (w : World) : Prop := Lib.TabIs Tryd.prog w "internal/strconv.uint64pow10" .u64 Lib.pow10Tab
theorem PT.kept {w w' : World} (h : PT w) (k : Kept [] w w') : PT w' := var_kept h k
theorem itoa_dec (n : Nat) : Lib.itoa (n : Int) = Lib.decDigits n := by unfold Lib.itoa; rw [if_neg (by omega)]; rfl
theorem itoa_any (n : Nat) (w : World) (hn : n ≤ 9223372036854775807) (hT : n < 100 ∨ PT w) :
    Calls Tryd.prog 58 #[I n] w fun e w' => e = .returned (S (Lib.decDigits n)) ∧ Kept [] w w' := by
  rcases hT with hT | hT
  · refine (Tryd.strconv_Itoa_small n hT w).mono ?_
    rintro e w' ⟨rfl, hw⟩
    exact ⟨by rw [← itoa_dec], by rw [hw]; exact Kept.refl _ _⟩
  · refine (Tryd.strconv_Itoa n (by omega) (by omega) w hT).mono ?_
    rintro e w' ⟨rfl, k, os, rfl⟩
    exact ⟨by rw [itoa_dec], Kept.of_below (Lib.below_grow _ w (Nat.le_refl _) k os) (Nat.le_refl _)⟩
theorem OwnT.new {B : Nat} {w : World} {b : Nat} {ns : List (List UInt8)} (h : w.heap[b]? = some (.cells (ns.map S).toArray 9 (0, 0))) (hb : B ≤ b) (hl : ns.length ≤ 1000) : OwnT B w (.slice (some ⟨b, 0, none⟩) ns.length ns.length) ns :=
  ⟨by simp, .inr ⟨b, ns.length, (ns.map S).toArray, rfl, hb, h, Nat.le_refl _, by unfold maxLen; omega, by simp, by simp; exact List.take_of_length_le (by simp)⟩⟩
theorem join_own {B : Nat} {w : World} {v : Value} {ns : List (List UInt8)} (sep : List UInt8) (h : OwnT B w v ns) (hl : ns.length ≤ 1000) (hlen : (sep.intercalate ns).length ≤ 140737488355328) :
    Calls Tryd.prog 103 #[v, S sep] w fun e w' => e = .returned (S (sep.intercalate ns)) ∧ Kept [] w w' := by
  rcases h.2 with ⟨rfl, h0⟩ | ⟨g, cap, cur, rfl, hb, hg, hnc, hcm, hsz, htake⟩
  · have : ns = [] := List.eq_nil_of_length_eq_zero h0
    subst this
    exact (Tryd.strings_Join_none none 0 ⟨sep.toArray⟩ w).mono fun e w' ⟨he, hw⟩ => ⟨he, by rw [hw]; exact Kept.refl _ _⟩
  · have e1 : ns.length = (ns.map fun l => (⟨l.toArray⟩ : ByteArray)).length := by simp
    have e2 : (ns.map fun l => (⟨l.toArray⟩ : ByteArray)).map (·.data.toList) = ns := by
      rw [List.map_map]; conv => rhs; rw [← List.map_id ns]
      apply List.map_congr_left; intro x _; rfl
    have := Tryd.strings_Join g 0 cap (ns.map fun l => (⟨l.toArray⟩ : ByteArray)) ⟨sep.toArray⟩ w (fun j x hx => by
      rw [List.getElem?_map] at hx
      have hj : j < ns.length := by
        rcases Nat.lt_or_ge j ns.length with h | h
        · exact h
        · rw [List.getElem?_eq_none h] at hx; cases hx
      rw [cell_at hg, Nat.zero_add]
      have h1 : (cur.toList.take (ns.length * 1))[j]? = some (S ns[j]) := by rw [htake]; simp [hj]
      rw [List.getElem?_take_of_lt (by omega)] at h1
      rw [← Array.getElem?_toList, h1]
      rw [List.getElem?_eq_getElem hj] at hx
      cases hx; rfl) (lt_of_block hg) (by rw [← e1]; omega) (by rw [← e1]; exact hnc) (by rw [e2]; exact hlen)
    rw [e2, ← e1] at this
    exact this.mono fun e w' ⟨he, hw⟩ => ⟨he, Kept.of_below hw (Nat.le_refl _)⟩
def linesL (ns : List (List UInt8)) : List UInt8 := ([13, 10] : List UInt8).intercalate ns ++ [13, 10]
theorem lines_own {B : Nat} {w : World} {v : Value} {ns : List (List UInt8)} (h : OwnT B w v ns) (hl : ns.length ≤ 1000) (hlen : (([13, 10] : List UInt8).intercalate ns).length ≤ 1000000) (o : List UInt8) (ho : linesL ns = o) :
    Calls Tryd.prog 69 #[v] w fun e w' => e = .returned (S o) ∧ Kept [] w w' := by
  have HJ := Lib.hid (join_own [13, 10] h hl (by omega))
  have HO := Lib.hid ho
  obtain ⟨t, ht⟩ : ∃ t, ([13, 10] : List UInt8).intercalate ns = t := ⟨_, rfl⟩
  rw [ht] at HJ hlen
  have HOT : Hid (o = t ++ [13, 10]) := Lib.hid (by rw [← ho, ← ht]; rfl)
  have hlen' : (t.length : Int) + 2 ≤ 1000002 := by omega
  clear ho ht h
  go_enter Tryd.func69, Tryd.ntmps69
  go_wp2_with (fail)
  refine HJ.out.mono ?_
  rintro e w1 ⟨rfl, k1⟩
  have K1 := Lib.hid k1
  clear k1
  go_wp2_with (fail)
  go_ret
  exact ⟨by rw [HOT.out] <;> rfl, K1.out⟩
def okA (host target : List UInt8) : Bool := visB host && (visB target && (byteAt target 0 == 47))
def clo : List UInt8 := [67, 111, 110, 110, 101, 99, 116, 105, 111, 110, 58, 32, 99, 108, 111, 115, 101]
def reqL (host target : List UInt8) (k : Nat) : List UInt8 := [71, 69, 84, 32] ++ target ++ [32, 72, 84, 84, 80, 47, 49, 46, 49, 13, 10, 72, 111, 115, 116, 58, 32] ++ host ++ [13, 10] ++ (if 0 < k then [82, 97, 110, 103, 101, 58, 32, 98, 121, 116, 101, 115, 61] ++ Lib.decDigits k ++ [45, 13, 10] else []) ++ (clo ++ [13, 10, 13, 10])
def repL (host target text : List UInt8) : List UInt8 := [80, 79, 83, 84, 32] ++ target ++ [32, 72, 84, 84, 80, 47, 49, 46, 49, 13, 10, 72, 111, 115, 116, 58, 32] ++ host ++ [13, 10, 67, 111, 110, 116, 101, 110, 116, 45, 76, 101, 110, 103, 116, 104, 58, 32] ++ Lib.decDigits text.length ++ ([13, 10] ++ clo ++ [13, 10, 13, 10]) ++ text
def reqF (host target : List UInt8) (k : Int) : List UInt8 × Nat := if okA host target && decide (0 ≤ k) then (reqL host target k.toNat, 0) else ([], 170)
def repF (host target text : List UInt8) : List UInt8 × Nat := if okA host target && decide (text.length ≤ 4096) then (repL host target text, 0) else ([], 170)
theorem vis_len {s : List UInt8} (h : visB s = true) : 1 ≤ s.length ∧ s.length ≤ 64 := by
  simp only [visB, Bool.and_eq_true, decide_eq_true_eq] at h; exact ⟨h.1.2, h.2⟩
theorem bne_byte (c : UInt8) (n : Nat) (hn : n < 256) (b : Bool) (h : (c == UInt8.ofNat n) = b) : ((c.toNat : Int) != (n : Int)) = !b := by rw [bne, byte_eqI c n hn b h]
theorem bne47 (c : UInt8) (b : Bool) (h : (c == 47) = b) : ((c.toNat : Int) != 47) = !b := bne_byte c 47 (by omega) b h
theorem dec_len20 (n : Nat) (h : n ≤ 9223372036854775807) : (Lib.decDigits n).length ≤ 19 := dec_len n 19 (by omega) (by omega)
end Go.Proofs.YtgdioalhlmnhhaaDoor
