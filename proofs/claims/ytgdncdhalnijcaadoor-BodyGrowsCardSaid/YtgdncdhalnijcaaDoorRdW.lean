/- Walks and lemmas on the program of this seat, used by its statements; each theorem bears its own conditions. -/
import Derived.Test.YtgdncdhalnijcaaDoorRdP
namespace Go.Proofs.YtgdncdhalnijcaaDoor
open Go.RowKit
set_option linter.unusedVariables false
set_option linter.unusedSimpArgs false
namespace BD
/-! ### The document's reader -/
structure Xr where
  s : List UInt8
  pos : Nat
  sv : Value
  e : Int
  short : Bool
def Xr.obj (x : Xr) : Obj := .cells #[S x.s, I x.pos, x.sv, I x.e, .bool x.short] 53 (0, 0)
def XAt (w : World) (b : Nat) (x : Xr) : Prop := w.heap[b]? = some x.obj
theorem XAt.cells {w : World} {b : Nat} {x : Xr} (h : XAt w b x) :
    w.cell? ⟨b, 0, none⟩ = some (S x.s) ∧ w.cell? ⟨b, 1, none⟩ = some (I x.pos) ∧ w.cell? ⟨b, 2, none⟩ = some x.sv ∧ w.cell? ⟨b, 3, none⟩ = some (I x.e) ∧ w.cell? ⟨b, 4, none⟩ = some (.bool x.short) := by
  unfold XAt Xr.obj at h
  simp [cell_at h]
theorem XAt.free {w : World} {b : Nat} {x : Xr} (h : XAt w b x) :
    w.frozen? ⟨b, 0, none⟩ = false ∧ w.frozen? ⟨b, 1, none⟩ = false ∧ w.frozen? ⟨b, 2, none⟩ = false ∧ w.frozen? ⟨b, 3, none⟩ = false ∧ w.frozen? ⟨b, 4, none⟩ = false :=
  ⟨free_at h _, free_at h _, free_at h _, free_at h _, free_at h _⟩
theorem XAt.set1 {w : World} {b : Nat} {x : Xr} (h : XAt w b x) (n : Nat) : XAt (w.setCell ⟨b, 1, none⟩ (I n)) b { x with pos := n } := heap_setCell_at h 1 _
theorem XAt.set2 {w : World} {b : Nat} {x : Xr} (h : XAt w b x) (v : Value) : XAt (w.setCell ⟨b, 2, none⟩ v) b { x with sv := v } := heap_setCell_at h 2 _
theorem XAt.set3 {w : World} {b : Nat} {x : Xr} (h : XAt w b x) (n : Int) : XAt (w.setCell ⟨b, 3, none⟩ (I n)) b { x with e := n } := heap_setCell_at h 3 _
theorem XAt.set4 {w : World} {b : Nat} {x : Xr} (h : XAt w b x) (v : Bool) : XAt (w.setCell ⟨b, 4, none⟩ (.bool v)) b { x with short := v } := heap_setCell_at h 4 _
theorem XAt.kept {S' : List Nat} {w w' : World} {b : Nat} {x : Xr} (h : XAt w b x) (k : Kept S' w w') (hb : b ∉ S') : XAt w' b x := k.at h hb
def okX (x : Xr) : Bool := decide (x.e = 0) && !x.short
theorem okX_any (b : Nat) (x : Xr) (w : World) (h : XAt w b x) : Calls Tryd.prog 22 #[Ptr b] w fun e w' => e = .returned (.bool (okX x)) ∧ w = w' := by
  obtain ⟨c0, c1, c2, c3, c4⟩ := h.cells
  go_enter Tryd.func22, Tryd.ntmps22
  go_wp2_with (fail)
  all_goals go_ret
  all_goals
    refine ⟨ret_B ?_, rfl⟩
    unfold okX
    simp [*]
/-- 'must'. -/
def mustF (x : Xr) (is : Bool) (k : Int) : Xr := if okX x = true ∧ is = false then { x with e := k } else x
theorem must_any (b : Nat) (x : Xr) (is : Bool) (k : Int) (w : World) (h : XAt w b x) :
    Calls Tryd.prog 24 #[Ptr b, .bool is, I k] w fun e w' => e = .returned (.tuple #[]) ∧ XAt w' b (mustF x is k) ∧ Kept [b] w w' := by
  have ⟨c0, c1, c2, c3, c4⟩ := h.cells
  have ⟨f0, f1, f2, f3, f4⟩ := h.free
  have H := Lib.hid h
  clear h
  go_enter Tryd.func24, Tryd.ntmps24
  go_wp2_with (fail)
  refine (okX_any b x w H.out).mono ?_
  rintro e w' ⟨rfl, rfl⟩
  cases ho : okX x <;> cases is
  all_goals go_wp2_with (fail)
  · exact bodyPost_end (v := .tuple #[]) (by simp [results, Tryd.results24, go_sem]) rfl ⟨rfl, by unfold mustF; simpa [ho] using H.out, Kept.refl _ _⟩
  · exact bodyPost_end (v := .tuple #[]) (by simp [results, Tryd.results24, go_sem]) rfl ⟨rfl, by unfold mustF; simpa [ho] using H.out, Kept.refl _ _⟩
  · exact bodyPost_end (v := .tuple #[]) (by simp [results, Tryd.results24, go_sem]) rfl ⟨rfl, by unfold mustF; simpa [ho] using H.out.set3 k, (Kept.refl _ _).setCell (.inl (by simp)) _⟩
  · exact bodyPost_end (v := .tuple #[]) (by simp [results, Tryd.results24, go_sem]) rfl ⟨rfl, by unfold mustF; simpa [ho] using H.out, Kept.refl _ _⟩
/-- 'next'. -/
def nextF (x : Xr) : Xr := if (x.pos : Int) < x.s.length then (if okX x = true then { x with pos := x.pos + 1 } else x) else { x with short := true }
def nextB (x : Xr) : UInt8 := if okX x = true then x.s.getD x.pos 0 else 0
theorem next_any (b : Nat) (x : Xr) (w : World) (h : XAt w b x) (hp : x.pos ≤ x.s.length) (hl : x.s.length ≤ 1000000) :
    Calls Tryd.prog 26 #[Ptr b] w fun e w' => e = .returned (B (nextB x)) ∧ XAt w' b (nextF x) ∧ Kept [b] w w' := by
  have ⟨c0, c1, c2, c3, c4⟩ := h.cells
  have ⟨f0, f1, f2, f3, f4⟩ := h.free
  have H := Lib.hid h
  clear h
  go_enter Tryd.func26, Tryd.ntmps26
  by_cases hlt : (x.pos : Int) < x.s.length
  · go_wp2_with (fail)
    go_quiet (fail)
    go_wp2_with (fail)
    refine (okX_any b x (w.drewN nq) H.out).mono ?_
    rintro e w' ⟨rfl, rfl⟩
    cases ho : okX x
    · go_wp2_with (fail)
      go_ret
      refine ⟨by unfold nextB; rw [if_neg (by simp [ho])]; rfl, ?_, (Kept.refl _ _).drewN _⟩
      unfold nextF; rw [if_pos hlt, if_neg (by simp [ho])]; exact H.out
    · go_wp2_with (fail)
      have h2 : XAt ((w.drewN nq).setCell ⟨b, 1, none⟩ (Value.int .i64 ((x.pos : Int) + 1))) b { x with pos := x.pos + 1 } := XAt.set1 (w := w.drewN nq) (x := x) H.out (x.pos + 1)
      have k2 : Kept [b] w ((w.drewN nq).setCell ⟨b, 1, none⟩ (Value.int .i64 ((x.pos : Int) + 1))) := ((Kept.refl [b] w).drewN nq).setCell (.inl (by simp)) _
      have ⟨d0, d1, _, _, _⟩ := h2.cells
      have H2 := Lib.hid (And.intro h2 k2)
      have hb : x.s.getD x.pos 0 = x.s[x.pos]'(by omega) := by simp [List.getD, show x.pos < x.s.length by omega]
      have HB := Lib.hid hb
      have d1' : ((w.drewN nq).setCell ⟨b, 1, none⟩ (Value.int .i64 ((x.pos : Int) + 1))).cell? ⟨b, 1, none⟩ = some (I ((x.pos : Int) + 1)) := d1
      clear h2 k2 hb d1
      generalize (w.drewN nq).setCell ⟨b, 1, none⟩ (Value.int .i64 ((x.pos : Int) + 1)) = w2 at *
      go_quiet (fail)
      go_wp2_with (fail)
      go_ret
      refine ⟨?_, ?_, H2.out.2.drewN _⟩
      · unfold nextB; rw [if_pos ho, HB.out]; rfl
      · unfold nextF; rw [if_pos hlt, if_pos ho]; exact H2.out.1
  · go_wp2_with (fail)
    go_quiet (fail)
    go_wp2_with (fail)
    have h2 : XAt ((w.drewN nq).setCell ⟨b, 4, none⟩ (Value.bool true)) b { x with short := true } := XAt.set4 (w := w.drewN nq) (x := x) H.out true
    have k2 : Kept [b] w ((w.drewN nq).setCell ⟨b, 4, none⟩ (Value.bool true)) := ((Kept.refl [b] w).drewN nq).setCell (.inl (by simp)) _
    refine (okX_any b _ _ h2).mono ?_
    rintro e w' ⟨rfl, rfl⟩
    rw [show okX { x with short := true } = false by simp [okX]]
    go_wp2_with (fail)
    go_ret
    refine ⟨?_, by unfold nextF; rw [if_neg (by omega)]; exact h2, k2⟩
    unfold nextB; rw [show x.s.getD x.pos 0 = 0 by simp [List.getD, show ¬ x.pos < x.s.length by omega]]
    simp
/-! ### Where the document's reader stands -/
def Seen (x : Xr) (out : List UInt8) (r : Rd) : Prop := x.pos ≤ x.s.length ∧ feeds rdC (x.s.take x.pos) = (r, out, 0)
def Wrong (s : List UInt8) (k : Int) : Prop := k ≠ 0 ∧ (feeds rdC s).2 = ([], k)
def Shorts (s : List UInt8) (out : List UInt8) : Prop := ∃ r, feeds rdC s = (r, out, 0) ∧ r.state ≠ 11
theorem feeds_cons_bad {r r' : Rd} {c : UInt8} {o : List UInt8} {k : Int} (s : List UInt8) (h : feed r c = (r', o, k)) (hk : k ≠ 0) : feeds r (c :: s) = (r', [], k) := by
  simp [feeds, h, hk]
theorem take_succ_getD (l : List UInt8) (n : Nat) (h : n < l.length) : l.take (n + 1) = l.take n ++ [l.getD n 0] := by
  rw [List.take_add_one]; simp [List.getD, h]
theorem cut_getD (l : List UInt8) (n : Nat) (h : n < l.length) : l = l.take n ++ (l.getD n 0 :: l.drop (n + 1)) := by
  have h1 : l.drop n = l.getD n 0 :: l.drop (n + 1) := by rw [List.drop_eq_getElem_cons h]; simp [List.getD, h]
  rw [← h1, List.take_append_drop]
theorem Seen.step {x : Xr} {out o : List UInt8} {r r' : Rd} (h : Seen x out r) (hl : x.pos < x.s.length) (hf : feed r (x.s.getD x.pos 0) = (r', o, 0)) : Seen { x with pos := x.pos + 1 } (out ++ o) r' := by
  refine ⟨hl, ?_⟩
  have h2 := feeds_go h.2 (feeds_cons_ok hf (feeds_nil _))
  rw [if_pos rfl] at h2
  show feeds rdC (x.s.take (x.pos + 1)) = _
  rw [take_succ_getD _ _ hl]; simpa using h2
theorem Seen.wrong {x : Xr} {out o : List UInt8} {r r' : Rd} {k : Int} (h : Seen x out r) (hl : x.pos < x.s.length) (hf : feed r (x.s.getD x.pos 0) = (r', o, k)) (hk : k ≠ 0) : Wrong x.s k := by
  refine ⟨hk, ?_⟩
  have h2 := feeds_go h.2 (feeds_cons_bad (x.s.drop (x.pos + 1)) hf hk)
  rw [← cut_getD _ _ hl, if_neg hk] at h2
  rw [h2]
theorem Seen.all {x : Xr} {out : List UInt8} {r : Rd} (h : Seen x out r) (hl : ¬ x.pos < x.s.length) : feeds rdC x.s = (r, out, 0) := by
  have h1 := h.2
  rwa [List.take_of_length_le (by omega)] at h1
theorem Seen.short {x : Xr} {out : List UInt8} {r : Rd} (h : Seen x out r) (hl : ¬ x.pos < x.s.length) (hs : r.state ≠ 11) : Shorts x.s out := ⟨r, h.all hl, hs⟩
theorem okX_iff (x : Xr) : okX x = true ↔ x.e = 0 ∧ x.short = false := by simp [okX]
/-- Where no line goes on. -/
def Ended (x : Xr) (out : List UInt8) : Prop := (x.short = true ∧ x.e = 0 ∧ Shorts x.s out) ∨ (x.e ≠ 0 ∧ Wrong x.s x.e)
theorem Ended.not_ok {x : Xr} {out : List UInt8} (h : Ended x out) : okX x = false := by
  rcases h with ⟨h1, _⟩ | ⟨h1, _⟩ <;> simp [okX, h1]
/-- Within a line: m bytes of it were read. -/
def InLine (x : Xr) (out : List UInt8) (r : Rd) (m : Nat) : Prop :=
  x.e = 0 ∧ x.short = false ∧ x.pos ≤ x.s.length ∧ 1 ≤ m ∧
  ((m ≤ 256 ∧ Seen x out { r with state := 8, many := m }) ∨
   (m ≤ 256 ∧ Seen x out { r with state := 9, many := (m : Int) - 1 } ∧ x.pos < x.s.length ∧ (x.s.getD x.pos 0).toNat ≠ 10) ∨
   (m = 257 ∧ Wrong x.s 181))
theorem in8_13 (r : Rd) (m : Int) (c : UInt8) (hc : c.toNat = 13) (hm : m ≤ 256) : feed { r with state := 8, many := m } c = ({ r with state := 9, many := m }, [], 0) := by
  simp [feed, byteF, withinF, hc]; omega
theorem in8_else (r : Rd) (m : Int) (c : UInt8) (hc : c.toNat ≠ 13) : feed { r with state := 8, many := m } c = ({ r with state := 8, many := m + 1 }, [], if m + 1 > 256 then 181 else 0) := by
  simp [feed, byteF, withinF, hc]
theorem in9_10 (r : Rd) (m : Int) (c : UInt8) (hc : c.toNat = 10) : feed { r with state := 9, many := m } c = ({ r with state := 7, many := m }, [], 0) := by
  simp [feed, byteF, withinF, hc]
theorem in9_13 (r : Rd) (m : Int) (c : UInt8) (hc : c.toNat = 13) : feed { r with state := 9, many := m } c = ({ r with state := 9, many := m + 1 }, [], if m + 1 > 256 then 181 else 0) := by
  simp [feed, byteF, withinF, hc]
theorem in9_else (r : Rd) (m : Int) (c : UInt8) (hc : c.toNat ≠ 13) (hd : c.toNat ≠ 10) : feed { r with state := 9, many := m } c = ({ r with state := 8, many := m + 1 + 1 }, [], if m + 1 + 1 > 256 then 181 else 0) := by
  simp [feed, byteF, withinF, hc, hd]
theorem in9_bad (r : Rd) (c : UInt8) (hd : c.toNat ≠ 10) : ∃ r', feed { r with state := 9, many := 256 } c = (r', [], 181) := by
  by_cases hc : c.toNat = 13
  · exact ⟨_, by rw [in9_13 r 256 c hc]; rfl⟩
  · exact ⟨_, by rw [in9_else r 256 c hc hd]; rfl⟩
theorem InLine.step {x : Xr} {out : List UInt8} {r : Rd} {m : Nat} (h : InLine x out r m) (hm : m ≤ 256) (hl : x.pos < x.s.length)
    (h1 : ¬ (x.pos + 1 < x.s.length ∧ (x.s.getD x.pos 0).toNat = 13 ∧ (x.s.getD (x.pos + 1) 0).toNat = 10)) (h2 : ¬ (x.pos + 1 = x.s.length ∧ (x.s.getD x.pos 0).toNat = 13)) :
    InLine { x with pos := x.pos + 1 } out r (m + 1) := by
  obtain ⟨he, hs, _, hm1, hc⟩ := h
  refine ⟨he, hs, hl, by omega, ?_⟩
  have h13 : (x.s.getD x.pos 0).toNat = 13 → x.pos + 1 < x.s.length ∧ (x.s.getD (x.pos + 1) 0).toNat ≠ 10 := by
    intro h; exact ⟨by omega, fun h' => h1 ⟨by omega, h, h'⟩⟩
  have nine : ∀ (m' : Int), m' = m → (x.s.getD x.pos 0).toNat = 13 → Seen { x with pos := x.pos + 1 } out { r with state := 9, many := m' } →
      (m + 1 ≤ 256 ∧ Seen { x with pos := x.pos + 1 } out { r with state := 8, many := (m + 1 : Nat) }) ∨ (m + 1 ≤ 256 ∧ Seen { x with pos := x.pos + 1 } out { r with state := 9, many := ((m + 1 : Nat) : Int) - 1 } ∧ x.pos + 1 < x.s.length ∧ (x.s.getD (x.pos + 1) 0).toNat ≠ 10) ∨ (m + 1 = 257 ∧ Wrong x.s 181) := by
    intro m' hm' hb hs2
    obtain ⟨g1, g2⟩ := h13 hb
    by_cases h256 : m = 256
    · right; right
      obtain ⟨r', hr'⟩ := in9_bad r (x.s.getD (x.pos + 1) 0) g2
      have hs3 : Seen { x with pos := x.pos + 1 } out { r with state := 9, many := 256 } := by rw [hm', h256] at hs2; exact hs2
      exact ⟨by omega, hs3.wrong (x := { x with pos := x.pos + 1 }) g1 hr' (by decide)⟩
    · right; left
      refine ⟨by omega, ?_, g1, g2⟩
      have e : ((m + 1 : Nat) : Int) - 1 = m' := by omega
      rw [e]; exact hs2
  rcases hc with ⟨_, hc⟩ | ⟨_, hc, _, hn⟩ | ⟨h257, _⟩
  · by_cases hb : (x.s.getD x.pos 0).toNat = 13
    · have hs2 := hc.step hl (in8_13 r m _ hb (by omega))
      rw [List.append_nil] at hs2
      exact nine m rfl hb hs2
    · have hf := in8_else r m _ hb
      by_cases h256 : m = 256
      · right; right
        rw [if_pos (by omega)] at hf
        exact ⟨by omega, hc.wrong hl hf (by decide)⟩
      · left
        rw [if_neg (by omega)] at hf
        have hs2 := hc.step hl hf
        rw [List.append_nil] at hs2
        exact ⟨by omega, hs2⟩
  · by_cases hb : (x.s.getD x.pos 0).toNat = 13
    · have hf := in9_13 r (m - 1) _ hb
      rw [if_neg (by omega)] at hf
      have hs2 := hc.step hl hf
      rw [List.append_nil] at hs2
      exact nine _ (by omega) hb hs2
    · have hf := in9_else r (m - 1) _ hb hn
      by_cases h256 : m = 256
      · right; right
        rw [if_pos (by omega)] at hf
        exact ⟨by omega, hc.wrong hl hf (by decide)⟩
      · left
        rw [if_neg (by omega)] at hf
        have hs2 := hc.step hl hf
        rw [List.append_nil] at hs2
        have e : ((m + 1 : Nat) : Int) = (m : Int) - 1 + 1 + 1 := by omega
        rw [e]
        exact ⟨by omega, hs2⟩
  · omega
/-- The line's end stands there. -/
theorem InLine.ends {x : Xr} {out : List UInt8} {r : Rd} {m : Nat} (h : InLine x out r m) (hm : m ≤ 256) (hl : x.pos + 1 < x.s.length) (h13 : (x.s.getD x.pos 0).toNat = 13) (h10 : (x.s.getD (x.pos + 1) 0).toNat = 10) :
    Seen { x with pos := x.pos + 2 } out { r with state := 7, many := m } := by
  obtain ⟨he, hs, _, hm1, hc⟩ := h
  have two : Seen { x with pos := x.pos + 1 } out { r with state := 9, many := m } → Seen { x with pos := x.pos + 2 } out { r with state := 7, many := m } := by
    intro h
    have h2 := h.step (x := { x with pos := x.pos + 1 }) hl (in9_10 r m _ h10)
    rwa [List.append_nil] at h2
  rcases hc with ⟨_, hc⟩ | ⟨_, hc, _, hn⟩ | ⟨h257, _⟩
  · have h2 := hc.step (by omega) (in8_13 r m _ h13 (by omega))
    rw [List.append_nil] at h2
    exact two h2
  · have hf := in9_13 r (m - 1) _ h13
    rw [if_neg (by omega)] at hf
    have h2 := hc.step (by omega) hf
    rw [List.append_nil, show (m : Int) - 1 + 1 = m by omega] at h2
    exact two h2
  · omega
/-- Nothing more stands there, or what may be the beginning of the end. -/
theorem InLine.shorts {x : Xr} {out : List UInt8} {r : Rd} {m : Nat} (h : InLine x out r m) (hm : m ≤ 256) (hl : ¬ x.pos < x.s.length ∨ (x.pos + 1 = x.s.length ∧ (x.s.getD x.pos 0).toNat = 13)) : Shorts x.s out := by
  obtain ⟨he, hs, _, hm1, hc⟩ := h
  rcases hl with hl | ⟨hl, h13⟩
  · rcases hc with ⟨_, hc⟩ | ⟨_, hc, hl', hn⟩ | ⟨h257, _⟩
    · exact hc.short hl (by simp)
    · exact absurd hl' hl
    · omega
  · rcases hc with ⟨_, hc⟩ | ⟨_, hc, _, hn⟩ | ⟨h257, _⟩
    · have h2 := hc.step (by omega) (in8_13 r m _ h13 (by omega))
      rw [List.append_nil] at h2
      exact h2.short (by simp; omega) (by simp)
    · have hf := in9_13 r (m - 1) _ h13
      rw [if_neg (by omega)] at hf
      have h2 := hc.step (by omega) hf
      rw [List.append_nil] at h2
      exact h2.short (by simp; omega) (by simp)
    · omega
/-! ### Behind the last chunk: pure -/
theorem in7_13 (r : Rd) (m : Int) (c : UInt8) (hc : c.toNat = 13) : feed { r with state := 7, many := m } c = ({ r with state := 10, many := m }, [], 0) := by
  simp [feed, byteF, withinF, hc]
theorem in7_else (r : Rd) (m : Int) (c : UInt8) (hc : c.toNat ≠ 13) (hl : r.lines < 32) : feed { r with state := 7, many := m } c = ({ r with state := 8, many := 1, lines := r.lines + 1 }, [], 0) := by
  have h : ¬ r.lines + 1 > 32 := by omega
  simp [feed, byteF, withinF, hc, h]
theorem in7_many (r : Rd) (m : Int) (c : UInt8) (hc : c.toNat ≠ 13) (hl : ¬ r.lines < 32) : ∃ r', feed { r with state := 7, many := m } c = (r', [], 180) := by
  have h : r.lines + 1 > 32 := by omega
  exact ⟨_, by simp [feed, byteF, withinF, hc, h]; rfl⟩
theorem in10_10 (r : Rd) (m : Int) (c : UInt8) (hc : c.toNat = 10) : feed { r with state := 10, many := m } c = ({ r with state := 11, many := m }, [], 0) := by
  simp [feed, byteF, isF, hc]
theorem in10_else (r : Rd) (m : Int) (c : UInt8) (hc : c.toNat ≠ 10) : ∃ r', feed { r with state := 10, many := m } c = (r', [], 180) := by
  have h : ¬ (c.toNat : Int) = 10 := by omega
  exact ⟨_, by simp [feed, byteF, isF, h]; rfl⟩
/-! ### A chunk's line: pure -/
theorem in2_13 (r : Rd) (c : UInt8) (hs : r.state = 2) (hc : c.toNat = 13) (hm : 0 < r.many) : feed r c = ({ r with state := 3 }, [], 0) := by
  simp [feed, byteF, lineF, hs, hc, hm]
theorem in2_digit (r : Rd) (c : UInt8) (hs : r.state = 2) (hc : ¬ (c.toNat = 13 ∧ 0 < r.many)) (hd : 0 ≤ digitF c) (h6 : r.many < 6) : feed r c = ({ r with left := 16 * r.left + digitF c, many := r.many + 1 }, [], 0) := by
  have h1 : ¬ (digitF c < 0 ∨ r.many = 6) := by omega
  have h2 : ¬ (c.toNat = 13 ∧ 0 < r.many) := hc
  simp [feed, byteF, lineF, hs, h1, h2]
theorem in2_bad (r : Rd) (c : UInt8) (hs : r.state = 2) (hc : ¬ (c.toNat = 13 ∧ 0 < r.many)) (hd : digitF c < 0 ∨ r.many = 6) : feed r c = (r, [], 180) := by
  simp [feed, byteF, lineF, hs, hc, hd]
theorem in3_10 (r : Rd) (c : UInt8) (hs : r.state = 3) (hc : c.toNat = 10) : feed r c = ((beginsF { r with state := 4 }).1, [], (beginsF { r with state := 4 }).2) := by
  simp [feed, byteF, hs, hc]
theorem in3_else (r : Rd) (c : UInt8) (hs : r.state = 3) (hc : c.toNat ≠ 10) : feed r c = (r, [], 180) := by
  simp [feed, byteF, hs, hc]
theorem in4 (r : Rd) (c : UInt8) (hs : r.state = 4) : feed r c = ({ r with left := r.left - 1, told := r.told + 1, state := if r.left = 1 then 5 else 4 }, [c], 0) := by
  simp [feed, hs]
theorem in5_13 (r : Rd) (c : UInt8) (hs : r.state = 5) (hc : c.toNat = 13) : feed r c = ({ r with state := 6 }, [], 0) := by
  simp [feed, byteF, isF, hs, hc]
theorem in5_else (r : Rd) (c : UInt8) (hs : r.state = 5) (hc : c.toNat ≠ 13) : feed r c = (r, [], 180) := by
  have h : ¬ (c.toNat : Int) = 13 := by omega
  simp [feed, byteF, isF, hs, h]
theorem in6_10 (r : Rd) (c : UInt8) (hs : r.state = 6) (hc : c.toNat = 10) : feed r c = ({ r with state := 2 }, [], 0) := by
  simp [feed, byteF, isF, hs, hc]
theorem in6_else (r : Rd) (c : UInt8) (hs : r.state = 6) (hc : c.toNat ≠ 10) : feed r c = (r, [], 180) := by
  have h : ¬ (c.toNat : Int) = 10 := by omega
  simp [feed, byteF, isF, hs, h]

/-! ### Nothing is left over ahead of the end -/
theorem rest_same (r : Rd) (c : UInt8) (h : r.state ≠ 11) : (feed r c).1.rest = r.rest := by
  have k := keeps_byte r c
  unfold feed
  rw [if_neg h]
  (repeat' split) <;> first | rfl | exact k.2.2.2
theorem rest_kept0 (s : List UInt8) : ∀ (r r' : Rd) (o : List UInt8), r.rest = [] → feeds r s = (r', o, 0) → r'.state ≠ 11 → r'.rest = [] := by
  induction s with
  | nil => intro r r' o h hf _; rw [feeds_nil] at hf; injection hf with e1 _; rw [← e1]; exact h
  | cons c s ih =>
    intro r r' o h hf hs
    by_cases h11 : r.state = 11
    · rw [feeds_done _ _ h11] at hf
      injection hf with e1 _
      rw [← e1] at hs
      exact absurd h11 hs
    · simp only [feeds] at hf
      by_cases h1 : (feed r c).2.2 = 0
      · rw [if_pos h1] at hf
        by_cases h2 : (feeds (feed r c).1 s).2.2 = 0
        · rw [if_pos h2] at hf
          have e1 : (feeds (feed r c).1 s).1 = r' := (Prod.mk.inj hf).1
          have h3 := ih (feed r c).1 (feeds (feed r c).1 s).1 (feeds (feed r c).1 s).2.1 (by rw [rest_same _ _ h11]; exact h) (by rw [← h2]) (by rw [e1]; exact hs)
          rw [e1] at h3; exact h3
        · rw [if_neg h2] at hf
          injection hf with _ e2
          injection e2 with _ e4
          exact absurd e4 h2
      · rw [if_neg h1] at hf
        injection hf with _ e2
        injection e2 with _ e4
        exact absurd e4 h1
theorem Seen.rest {x : Xr} {out : List UInt8} {r : Rd} (h : Seen x out r) (hs : r.state ≠ 11) : r.rest = [] := rest_kept0 _ rdC r out rfl h.2 hs
end BD
end Go.Proofs.YtgdncdhalnijcaaDoor
