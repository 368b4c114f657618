/- Walks and lemmas on the program of this seat, used by its statements; each theorem bears its own conditions. -/
import Derived.Test.YtgdioalhlmnhhaaDoorHRD
import Derived.Handy
import Derived.Deep.CutRange
import Derived.OwnWalk
import Derived.Deep.AppendLies
namespace Go.Proofs.YtgdioalhlmnhhaaDoor
open Go.RowKit
set_option linter.unusedVariables false
set_option linter.unusedSimpArgs false
/-! ### The reference's Lines -/
theorem take_snoc1 (l : List UInt8) (k : Nat) (h : k < l.length) : l.take (k + 1) = l.take k ++ [byteAt l k] := by
  rw [List.take_succ_eq_append_getElem h, byteAt_eq l k h]
def tailOk (s : List UInt8) (f i : Nat) : Prop := f ≤ i ∧ i ≤ s.length ∧ (f = 0 ∨ WX.ends10 (s.take f) = true) ∧ ∀ c ∈ (s.take i).drop f, c ≠ 10
theorem tail_step {s : List UInt8} {f i : Nat} (h : tailOk s f i) (hi : i < s.length) (hc : byteAt s i ≠ 10) : tailOk s f (i + 1) := by
  obtain ⟨h1, h2, h3, h4⟩ := h
  refine ⟨by omega, hi, h3, fun c hm => ?_⟩
  rw [take_snoc1 s i hi, List.drop_append] at hm
  rcases List.mem_append.1 hm with hm | hm
  · exact h4 c hm
  · have hl : (s.take i).length = i := by simp; omega
    rw [hl, show f - i = 0 by omega, List.drop_zero, List.mem_singleton] at hm
    rw [hm]; exact hc
theorem tail_split {s : List UInt8} {f i : Nat} (h1 : f ≤ i) (h2 : i ≤ s.length) : s.take i = s.take f ++ (s.take i).drop f := by
  conv => lhs; rw [← List.take_append_drop f (s.take i)]
  rw [List.take_take, Nat.min_eq_left h1]
theorem tail_line {s : List UInt8} {f i : Nat} (h : tailOk s f i) (hi : i < s.length) (hc : byteAt s i = 10) :
    tailOk s (i + 1) (i + 1) ∧ WX.linesG (s.take (i + 1)) = WX.linesG (s.take f) ++ [(s.take i).drop f] := by
  obtain ⟨h1, h2, h3, h4⟩ := h
  have e : s.take (i + 1) = s.take f ++ ((s.take i).drop f ++ [10]) := by
    rw [take_snoc1 s i hi, hc, ← List.append_assoc, ← tail_split h1 h2]
  refine ⟨⟨Nat.le_refl _, hi, .inr (by rw [take_snoc1 s i hi, hc]; exact WX.ends10_app _), by simp⟩, ?_⟩
  rw [e, WX.linesG_snoc _ _ (by rcases h3 with h3 | h3; exact .inl (by rw [h3]; rfl); exact .inr h3) h4]
theorem tail_end {s : List UInt8} {f : Nat} (h : tailOk s f s.length) : (decide (f = s.length) && decide (0 < s.length)) = WX.ends10 s := by
  obtain ⟨h1, _, h3, h4⟩ := h
  rw [List.take_length] at h4
  by_cases hf : f = s.length
  · subst hf
    rcases h3 with h3 | h3
    · have : s = [] := List.eq_nil_of_length_eq_zero h3
      subst this; rfl
    · rw [List.take_length] at h3
      have : 0 < s.length := by
        rcases Nat.eq_zero_or_pos s.length with h | h
        · rw [List.eq_nil_of_length_eq_zero h] at h3; cases h3
        · exact h
      rw [h3]; simp [this]
  · rw [decide_eq_false hf, Bool.false_and]
    have hlt : f < s.length := by omega
    have hne : s.drop f ≠ [] := by intro e; have := congrArg List.length e; simp at this; omega
    cases he : WX.ends10 s with
    | false => rfl
    | true =>
      exfalso
      unfold WX.ends10 at he
      rw [beq_iff_eq] at he
      have e : s = s.take f ++ s.drop f := (List.take_append_drop f s).symm
      rw [e, List.getLast?_append] at he
      cases hg : (s.drop f).getLast? with
      | none => exact hne (List.getLast?_eq_none_iff.1 hg)
      | some z =>
        rw [hg] at he; simp at he; subst he
        exact h4 10 (List.mem_of_getLast? hg) rfl
def LinesPost (s : List UInt8) (w : World) (e : Ending) (w' : World) : Prop := ∃ v ls, e = .returned (.tuple #[v, .bool (WX.ends10 s)]) ∧ OwnT w.heap.size w' v ls ∧ ls.length ≤ 3000 ∧ (WX.ends10 s = true → ls = WX.linesG s) ∧ Kept [] w w'
theorem OwnT.app {B : Nat} {wa : World} {x : List UInt8} {g cap : Nat} {ns : List (List UInt8)} (own : wa.ownsRow B 9 1 (.slice (some ⟨g, 0, none⟩) (ns.length + 1) cap) (ns.length + 1) (ns.map S ++ [S x])) : OwnT B wa (.slice (some ⟨g, 0, none⟩) (ns.length + 1) cap) (ns ++ [x]) := by
  unfold OwnT; simpa using own
set_option maxRecDepth 100000 in
set_option maxHeartbeats 4000000 in
theorem lines_any (s : List UInt8) (w : World) (hs : s.length ≤ 3000) :
    Calls Tryd.prog 62 #[S s] w (LinesPost s w) := by
  have hs' : (s.length : Int) ≤ 3000 := by omega
  obtain ⟨i0, hi, hz0, hz1, hz2⟩ := info_parts str_info
  have H0 : Hid (OwnT w.heap.size (w.alloc (.cells #[] 9)) (.slice (some ⟨w.heap.size, 0, none⟩) 0 0) [] ∧ Kept [] w (w.alloc (.cells #[] 9))) := Lib.hid ⟨⟨by simp, .inr ⟨w.heap.size, 0, #[], rfl, Nat.le_refl _, heap_new w _, Nat.le_refl _, by decide, by simp, by simp⟩⟩, (Kept.refl _ _).alloc _⟩
  go_enter Tryd.func62, Tryd.ntmps62
  go_wp2_with (fail)
  go_loopw [4, 5, 6] (fun ov fv iv wr => ∃ (f i : Nat) (ls : List (List UInt8)) (p : Option Addr) (c : Nat), fv = I f ∧ iv = I i ∧ ov = .slice p ls.length c ∧ ls = WX.linesG (s.take f) ∧ tailOk s f i ∧ OwnT w.heap.size wr (.slice p ls.length c) ls ∧ Kept [] w wr) (fun _ _ iv _ => s.length - (intOf iv).toNat)
  case atStart => exact ⟨0, 0, [], _, _, rfl, rfl, rfl, rfl, ⟨by omega, by omega, .inl rfl, by simp⟩, H0.out.1, H0.out.2⟩
  case round =>
    obtain ⟨f, i, ls, p, c, rfl, rfl, rfl, hls, ht, ho, hk⟩ := hrel
    have hn : ls.length ≤ 3000 := by
      have := WX.linesG_len (s.take f)
      rw [← hls, List.length_take] at this; omega
    have hn' : (ls.length : Int) ≤ 3000 := by omega
    have HT := Lib.hid (And.intro hls ht)
    have HO := Lib.hid (And.intro ho hk)
    have hfi : (f : Int) ≤ i := by have := ht.1; omega
    have his : (i : Int) ≤ s.length := by have := ht.2.1; omega
    clear hls ht ho hk
    by_cases hlt : i < s.length
    · have hlt' : (i : Int) < s.length := by omega
      by_cases hc : byteAt s i = 10
      · have hcb : (((byteAt s i).toNat : Int) == 10) = true := by rw [hc]; rfl
        have HTL := Lib.hid (tail_line HT.out.2 hlt hc)
        obtain ⟨ln, hln⟩ : ∃ l, (s.take i).drop f = l := ⟨_, rfl⟩
        rw [hln] at HTL
        have HA : Hid (OwnT w.heap.size (wr.alloc (.cells #[S ln] 9)) (.slice p ls.length c) ls ∧ Kept [] w (wr.alloc (.cells #[S ln] 9))) := Lib.hid ⟨HO.out.1.kept ((Kept.refl _ _).alloc _), HO.out.2.alloc _⟩
        have hws := HO.out.2.size
        clear hc
        go_wp2_with (at_builtin
                     refine wpList_append_lies _ rfl (.tmp 18) (.tmp 23) _ rfl w.heap.size 9 i0 (.string ⟨#[]⟩) 1 16 Tryd.underlying47 hi hz0 hz1 hz2 rfl (by decide) (.slice p ls.length c) ls.length (ls.map S) rfl HA.out.1 ⟨wr.heap.size, 0, none⟩ 1 1 [S ln] rfl rfl (World.news_of_block (heap_new wr _)) (S_one [ln]) (by decide) (by unfold maxLen; omega) (by omega) (by simp; omega) _ rfl ?_
                     intro g cap wa own1 gr1 hat hlt
                     have HB := Lib.hid (And.intro (OwnT.app own1) (HA.out.2.grown gr1 (fun q e => (HA.out.1.lt q e).1)))
                     clear own1 gr1 hat hlt)
        go_roundw
        case rel => exact ⟨i + 1, i + 1, ls ++ [ln], some ⟨g, 0, none⟩, cap, by go_num, by go_num, by simp, by rw [HTL.out.2, HT.out.1], HTL.out.1, by simpa using HB.out.1, HB.out.2⟩
        case measure => simp [intOf]; omega
      · have hcb : (((byteAt s i).toNat : Int) == 10) = false := by
          rw [beq_eq_false_iff_ne]; intro e; apply hc
          have : (byteAt s i).toNat = 10 := by omega
          exact UInt8.toNat_inj.1 (by rw [this]; rfl)
        have HTS := Lib.hid (tail_step HT.out.2 hlt hc)
        clear hc
        go_wp2_with (fail)
        go_roundw
        case rel => exact ⟨f, i + 1, ls, p, c, rfl, by go_num, rfl, HT.out.1, HTS.out, HO.out.1, HO.out.2⟩
        case measure => simp [intOf]; omega
    · obtain rfl : i = s.length := by omega
      have HE := Lib.hid (tail_end HT.out.2)
      by_cases hf : f = s.length
      · subst hf
        by_cases h0 : 0 < s.length
        · have h0' : (s.length : Int) > 0 := by omega
          have HX : Hid (WX.ends10 s = true) := Lib.hid (by rw [← HE.out]; simp [h0])
          go_wp2_with (fail)
          go_returns
          exact ⟨_, ls, by rw [HX.out]; rfl, HO.out.1, hn, fun _ => by rw [HT.out.1, List.take_length], HO.out.2⟩
        · have h0n : decide (0 < s.length) = false := decide_eq_false h0
          have h0' : decide ((s.length : Int) > 0) = false := decide_eq_false (by omega)
          have HX : Hid (WX.ends10 s = false) := Lib.hid (by rw [← HE.out]; simp [h0])
          clear h0
          go_wp2_with (fail)
          go_returns
          exact ⟨_, ls, by rw [HX.out]; rfl, HO.out.1, hn, fun _ => by rw [HT.out.1, List.take_length], HO.out.2⟩
      · have hfd : ((f : Int) == s.length) = false := by rw [beq_eq_false_iff_ne]; omega
        have HX : Hid (WX.ends10 s = false) := Lib.hid (by rw [← HE.out]; simp [hf])
        clear hf
        go_wp2_with (fail)
        go_returns
        exact ⟨_, ls, by rw [HX.out]; rfl, HO.out.1, hn, (fun h => by rw [HX.out] at h; cases h), HO.out.2⟩
end Go.Proofs.YtgdioalhlmnhhaaDoor
