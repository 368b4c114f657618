/- Walks and lemmas on the program of this seat, used by its statements; each theorem bears its own conditions. -/
import Derived.Test.YtgdncdhalnijcaaGreatDoorMRL
import Derived.StillTailTactics
namespace Go.Proofs.YtgdncdhalnijcaaGreatDoor
open Go.RowKit
set_option linter.unusedVariables false
set_option linter.unusedSimpArgs false
section
namespace BD
/-! ### The document's reader -/
structure Xr where
  s : List UInt8
  pos : Nat
  sv : Value
  e : Int
  short : Bool
def Xr.obj (x : Xr) : Obj := .cells #[S x.s, I x.pos, x.sv, I x.e, .bool x.short] 100 (0, 0)
def XAt (w : World) (b : Nat) (x : Xr) : Prop := w.heap[b]? = some x.obj
theorem XAt.cells {w : World} {b : Nat} {x : Xr} (h : XAt w b x) :
    w.cell? ⟨b, 0, none⟩ = some (S x.s) ∧ w.cell? ⟨b, 1, none⟩ = some (I x.pos) ∧ w.cell? ⟨b, 2, none⟩ = some x.sv ∧ w.cell? ⟨b, 3, none⟩ = some (I x.e) ∧ w.cell? ⟨b, 4, none⟩ = some (.bool x.short) := by
  unfold XAt Xr.obj at h
  simp [cell_at h]
theorem XAt.free {w : World} {b : Nat} {x : Xr} (h : XAt w b x) :
    w.frozen? ⟨b, 0, none⟩ = false ∧ w.frozen? ⟨b, 1, none⟩ = false ∧ w.frozen? ⟨b, 2, none⟩ = false ∧ w.frozen? ⟨b, 3, none⟩ = false ∧ w.frozen? ⟨b, 4, none⟩ = false :=
  ⟨free_at h _, free_at h _, free_at h _, free_at h _, free_at h _⟩
theorem XAt.set1 {w : World} {b : Nat} {x : Xr} (h : XAt w b x) (n : Nat) : XAt (w.setCell ⟨b, 1, none⟩ (I n)) b { x with pos := n } := heap_setCell_at h 1 _
theorem XAt.set2 {w : World} {b : Nat} {x : Xr} (h : XAt w b x) (v : Value) : XAt (w.setCell ⟨b, 2, none⟩ v) b { x with sv := v } := heap_setCell_at h 2 _
theorem XAt.set3 {w : World} {b : Nat} {x : Xr} (h : XAt w b x) (n : Int) : XAt (w.setCell ⟨b, 3, none⟩ (I n)) b { x with e := n } := heap_setCell_at h 3 _
theorem XAt.set4 {w : World} {b : Nat} {x : Xr} (h : XAt w b x) (v : Bool) : XAt (w.setCell ⟨b, 4, none⟩ (.bool v)) b { x with short := v } := heap_setCell_at h 4 _
theorem XAt.kept {S' : List Nat} {w w' : World} {b : Nat} {x : Xr} (h : XAt w b x) (k : Kept S' w w') (hb : b ∉ S') : XAt w' b x := k.at h hb
def okX (x : Xr) : Bool := decide (x.e = 0) && !x.short
theorem okX_any (b : Nat) (x : Xr) (w : World) (h : XAt w b x) : Calls Tryz.prog 73 #[Ptr b] w fun e w' => e = .returned (.bool (okX x)) ∧ w = w' := by
  obtain ⟨c0, c1, c2, c3, c4⟩ := h.cells
  go_enter Tryz.func73, Tryz.ntmps73
  go_wp2_with (fail)
  all_goals go_ret
  all_goals
    refine ⟨ret_B ?_, rfl⟩
    unfold okX
    simp [*]
/-- 'must'. -/
def mustF (x : Xr) (is : Bool) (k : Int) : Xr := if okX x = true ∧ is = false then { x with e := k } else x
theorem must_any (b : Nat) (x : Xr) (is : Bool) (k : Int) (w : World) (h : XAt w b x) :
    Calls Tryz.prog 75 #[Ptr b, .bool is, I k] w fun e w' => e = .returned (.tuple #[]) ∧ XAt w' b (mustF x is k) ∧ Kept [b] w w' := by
  have ⟨c0, c1, c2, c3, c4⟩ := h.cells
  have ⟨f0, f1, f2, f3, f4⟩ := h.free
  have H := Lib.hid h
  clear h
  go_enter Tryz.func75, Tryz.ntmps75
  go_wp2_with (fail)
  refine (okX_any b x w H.out).mono ?_
  rintro e w' ⟨rfl, rfl⟩
  cases ho : okX x <;> cases is
  all_goals go_wp2_with (fail)
  · exact bodyPost_end (v := .tuple #[]) (by simp [results, Tryz.results75, go_sem]) rfl ⟨rfl, by unfold mustF; simpa [ho] using H.out, Kept.refl _ _⟩
  · exact bodyPost_end (v := .tuple #[]) (by simp [results, Tryz.results75, go_sem]) rfl ⟨rfl, by unfold mustF; simpa [ho] using H.out, Kept.refl _ _⟩
  · exact bodyPost_end (v := .tuple #[]) (by simp [results, Tryz.results75, go_sem]) rfl ⟨rfl, by unfold mustF; simpa [ho] using H.out.set3 k, (Kept.refl _ _).setCell (.inl (by simp)) _⟩
  · exact bodyPost_end (v := .tuple #[]) (by simp [results, Tryz.results75, go_sem]) rfl ⟨rfl, by unfold mustF; simpa [ho] using H.out, Kept.refl _ _⟩
/-- 'next'. -/
def nextF (x : Xr) : Xr := if (x.pos : Int) < x.s.length then (if okX x = true then { x with pos := x.pos + 1 } else x) else { x with short := true }
def nextB (x : Xr) : UInt8 := if okX x = true then x.s.getD x.pos 0 else 0
theorem next_any (b : Nat) (x : Xr) (w : World) (h : XAt w b x) (hp : x.pos ≤ x.s.length) (hl : x.s.length ≤ 1000000) :
    Calls Tryz.prog 77 #[Ptr b] w fun e w' => e = .returned (B (nextB x)) ∧ XAt w' b (nextF x) ∧ Kept [b] w w' := by
  have ⟨c0, c1, c2, c3, c4⟩ := h.cells
  have ⟨f0, f1, f2, f3, f4⟩ := h.free
  have H := Lib.hid h
  clear h
  go_enter Tryz.func77, Tryz.ntmps77
  by_cases hlt : (x.pos : Int) < x.s.length
  · go_wp2_with (fail)
    go_quiet (fail)
    go_wp2_with (fail)
    refine (okX_any b x (w.drewN nq) H.out).mono ?_
    rintro e w' ⟨rfl, rfl⟩
    cases ho : okX x
    · go_wp2_with (fail)
      go_ret
      refine ⟨by unfold nextB; rw [if_neg (by simp [ho])]; rfl, ?_, (Kept.refl _ _).drewN _⟩
      unfold nextF; rw [if_pos hlt, if_neg (by simp [ho])]; exact H.out
    · go_wp2_with (fail)
      have h2 : XAt ((w.drewN nq).setCell ⟨b, 1, none⟩ (Value.int .i64 ((x.pos : Int) + 1))) b { x with pos := x.pos + 1 } := XAt.set1 (w := w.drewN nq) (x := x) H.out (x.pos + 1)
      have k2 : Kept [b] w ((w.drewN nq).setCell ⟨b, 1, none⟩ (Value.int .i64 ((x.pos : Int) + 1))) := ((Kept.refl [b] w).drewN nq).setCell (.inl (by simp)) _
      have ⟨d0, d1, _, _, _⟩ := h2.cells
      have H2 := Lib.hid (And.intro h2 k2)
      have hb : x.s.getD x.pos 0 = x.s[x.pos]'(by omega) := by simp [List.getD, show x.pos < x.s.length by omega]
      have HB := Lib.hid hb
      have d1' : ((w.drewN nq).setCell ⟨b, 1, none⟩ (Value.int .i64 ((x.pos : Int) + 1))).cell? ⟨b, 1, none⟩ = some (I ((x.pos : Int) + 1)) := d1
      clear h2 k2 hb d1
      generalize (w.drewN nq).setCell ⟨b, 1, none⟩ (Value.int .i64 ((x.pos : Int) + 1)) = w2 at *
      go_quiet (fail)
      go_wp2_with (fail)
      go_ret
      refine ⟨?_, ?_, H2.out.2.drewN _⟩
      · unfold nextB; rw [if_pos ho, HB.out]; rfl
      · unfold nextF; rw [if_pos hlt, if_pos ho]; exact H2.out.1
  · go_wp2_with (fail)
    go_quiet (fail)
    go_wp2_with (fail)
    have h2 : XAt ((w.drewN nq).setCell ⟨b, 4, none⟩ (Value.bool true)) b { x with short := true } := XAt.set4 (w := w.drewN nq) (x := x) H.out true
    have k2 : Kept [b] w ((w.drewN nq).setCell ⟨b, 4, none⟩ (Value.bool true)) := ((Kept.refl [b] w).drewN nq).setCell (.inl (by simp)) _
    refine (okX_any b _ _ h2).mono ?_
    rintro e w' ⟨rfl, rfl⟩
    rw [show okX { x with short := true } = false by simp [okX]]
    go_wp2_with (fail)
    go_ret
    refine ⟨?_, by unfold nextF; rw [if_neg (by omega)]; exact h2, k2⟩
    unfold nextB; rw [show x.s.getD x.pos 0 = 0 by simp [List.getD, show ¬ x.pos < x.s.length by omega]]
    simp
/-! ### Where the document's reader stands -/
def Seen (x : Xr) (out : List UInt8) (r : Rd) : Prop := x.pos ≤ x.s.length ∧ feeds rdC (x.s.take x.pos) = (r, out, 0)
def Wrong (s : List UInt8) (k : Int) : Prop := k ≠ 0 ∧ (feeds rdC s).2 = ([], k)
def Shorts (s : List UInt8) (out : List UInt8) : Prop := ∃ r, feeds rdC s = (r, out, 0) ∧ r.state ≠ 11
theorem feeds_cons_bad {r r' : Rd} {c : UInt8} {o : List UInt8} {k : Int} (s : List UInt8) (h : feed r c = (r', o, k)) (hk : k ≠ 0) : feeds r (c :: s) = (r', [], k) := by
  simp [feeds, h, hk]
theorem take_succ_getD (l : List UInt8) (n : Nat) (h : n < l.length) : l.take (n + 1) = l.take n ++ [l.getD n 0] := by
  rw [List.take_add_one]; simp [List.getD, h]
theorem cut_getD (l : List UInt8) (n : Nat) (h : n < l.length) : l = l.take n ++ (l.getD n 0 :: l.drop (n + 1)) := by
  have h1 : l.drop n = l.getD n 0 :: l.drop (n + 1) := by rw [List.drop_eq_getElem_cons h]; simp [List.getD, h]
  rw [← h1, List.take_append_drop]
theorem Seen.step {x : Xr} {out o : List UInt8} {r r' : Rd} (h : Seen x out r) (hl : x.pos < x.s.length) (hf : feed r (x.s.getD x.pos 0) = (r', o, 0)) : Seen { x with pos := x.pos + 1 } (out ++ o) r' := by
  refine ⟨hl, ?_⟩
  have h2 := feeds_go h.2 (feeds_cons_ok hf (feeds_nil _))
  rw [if_pos rfl] at h2
  show feeds rdC (x.s.take (x.pos + 1)) = _
  rw [take_succ_getD _ _ hl]; simpa using h2
theorem Seen.wrong {x : Xr} {out o : List UInt8} {r r' : Rd} {k : Int} (h : Seen x out r) (hl : x.pos < x.s.length) (hf : feed r (x.s.getD x.pos 0) = (r', o, k)) (hk : k ≠ 0) : Wrong x.s k := by
  refine ⟨hk, ?_⟩
  have h2 := feeds_go h.2 (feeds_cons_bad (x.s.drop (x.pos + 1)) hf hk)
  rw [← cut_getD _ _ hl, if_neg hk] at h2
  rw [h2]
theorem Seen.all {x : Xr} {out : List UInt8} {r : Rd} (h : Seen x out r) (hl : ¬ x.pos < x.s.length) : feeds rdC x.s = (r, out, 0) := by
  have h1 := h.2
  rwa [List.take_of_length_le (by omega)] at h1
theorem Seen.short {x : Xr} {out : List UInt8} {r : Rd} (h : Seen x out r) (hl : ¬ x.pos < x.s.length) (hs : r.state ≠ 11) : Shorts x.s out := ⟨r, h.all hl, hs⟩
theorem okX_iff (x : Xr) : okX x = true ↔ x.e = 0 ∧ x.short = false := by simp [okX]
/-- Where no line goes on. -/
def Ended (x : Xr) (out : List UInt8) : Prop := (x.short = true ∧ x.e = 0 ∧ Shorts x.s out) ∨ (x.e ≠ 0 ∧ Wrong x.s x.e)
theorem Ended.not_ok {x : Xr} {out : List UInt8} (h : Ended x out) : okX x = false := by
  rcases h with ⟨h1, _⟩ | ⟨h1, _⟩ <;> simp [okX, h1]
/-- Within a line: m bytes of it were read. -/
def InLine (x : Xr) (out : List UInt8) (r : Rd) (m : Nat) : Prop :=
  x.e = 0 ∧ x.short = false ∧ x.pos ≤ x.s.length ∧ 1 ≤ m ∧
  ((m ≤ 256 ∧ Seen x out { r with state := 8, many := m }) ∨
   (m ≤ 256 ∧ Seen x out { r with state := 9, many := (m : Int) - 1 } ∧ x.pos < x.s.length ∧ (x.s.getD x.pos 0).toNat ≠ 10) ∨
   (m = 257 ∧ Wrong x.s 181))
theorem in8_13 (r : Rd) (m : Int) (c : UInt8) (hc : c.toNat = 13) (hm : m ≤ 256) : feed { r with state := 8, many := m } c = ({ r with state := 9, many := m }, [], 0) := by
  simp [feed, byteF, withinF, hc]; omega
theorem in8_else (r : Rd) (m : Int) (c : UInt8) (hc : c.toNat ≠ 13) : feed { r with state := 8, many := m } c = ({ r with state := 8, many := m + 1 }, [], if m + 1 > 256 then 181 else 0) := by
  simp [feed, byteF, withinF, hc]
theorem in9_10 (r : Rd) (m : Int) (c : UInt8) (hc : c.toNat = 10) : feed { r with state := 9, many := m } c = ({ r with state := 7, many := m }, [], 0) := by
  simp [feed, byteF, withinF, hc]
theorem in9_13 (r : Rd) (m : Int) (c : UInt8) (hc : c.toNat = 13) : feed { r with state := 9, many := m } c = ({ r with state := 9, many := m + 1 }, [], if m + 1 > 256 then 181 else 0) := by
  simp [feed, byteF, withinF, hc]
theorem in9_else (r : Rd) (m : Int) (c : UInt8) (hc : c.toNat ≠ 13) (hd : c.toNat ≠ 10) : feed { r with state := 9, many := m } c = ({ r with state := 8, many := m + 1 + 1 }, [], if m + 1 + 1 > 256 then 181 else 0) := by
  simp [feed, byteF, withinF, hc, hd]
theorem in9_bad (r : Rd) (c : UInt8) (hd : c.toNat ≠ 10) : ∃ r', feed { r with state := 9, many := 256 } c = (r', [], 181) := by
  by_cases hc : c.toNat = 13
  · exact ⟨_, by rw [in9_13 r 256 c hc]; rfl⟩
  · exact ⟨_, by rw [in9_else r 256 c hc hd]; rfl⟩
theorem InLine.step {x : Xr} {out : List UInt8} {r : Rd} {m : Nat} (h : InLine x out r m) (hm : m ≤ 256) (hl : x.pos < x.s.length)
    (h1 : ¬ (x.pos + 1 < x.s.length ∧ (x.s.getD x.pos 0).toNat = 13 ∧ (x.s.getD (x.pos + 1) 0).toNat = 10)) (h2 : ¬ (x.pos + 1 = x.s.length ∧ (x.s.getD x.pos 0).toNat = 13)) :
    InLine { x with pos := x.pos + 1 } out r (m + 1) := by
  obtain ⟨he, hs, _, hm1, hc⟩ := h
  refine ⟨he, hs, hl, by omega, ?_⟩
  have h13 : (x.s.getD x.pos 0).toNat = 13 → x.pos + 1 < x.s.length ∧ (x.s.getD (x.pos + 1) 0).toNat ≠ 10 := by
    intro h; exact ⟨by omega, fun h' => h1 ⟨by omega, h, h'⟩⟩
  have nine : ∀ (m' : Int), m' = m → (x.s.getD x.pos 0).toNat = 13 → Seen { x with pos := x.pos + 1 } out { r with state := 9, many := m' } →
      (m + 1 ≤ 256 ∧ Seen { x with pos := x.pos + 1 } out { r with state := 8, many := (m + 1 : Nat) }) ∨ (m + 1 ≤ 256 ∧ Seen { x with pos := x.pos + 1 } out { r with state := 9, many := ((m + 1 : Nat) : Int) - 1 } ∧ x.pos + 1 < x.s.length ∧ (x.s.getD (x.pos + 1) 0).toNat ≠ 10) ∨ (m + 1 = 257 ∧ Wrong x.s 181) := by
    intro m' hm' hb hs2
    obtain ⟨g1, g2⟩ := h13 hb
    by_cases h256 : m = 256
    · right; right
      obtain ⟨r', hr'⟩ := in9_bad r (x.s.getD (x.pos + 1) 0) g2
      have hs3 : Seen { x with pos := x.pos + 1 } out { r with state := 9, many := 256 } := by rw [hm', h256] at hs2; exact hs2
      exact ⟨by omega, hs3.wrong (x := { x with pos := x.pos + 1 }) g1 hr' (by decide)⟩
    · right; left
      refine ⟨by omega, ?_, g1, g2⟩
      have e : ((m + 1 : Nat) : Int) - 1 = m' := by omega
      rw [e]; exact hs2
  rcases hc with ⟨_, hc⟩ | ⟨_, hc, _, hn⟩ | ⟨h257, _⟩
  · by_cases hb : (x.s.getD x.pos 0).toNat = 13
    · have hs2 := hc.step hl (in8_13 r m _ hb (by omega))
      rw [List.append_nil] at hs2
      exact nine m rfl hb hs2
    · have hf := in8_else r m _ hb
      by_cases h256 : m = 256
      · right; right
        rw [if_pos (by omega)] at hf
        exact ⟨by omega, hc.wrong hl hf (by decide)⟩
      · left
        rw [if_neg (by omega)] at hf
        have hs2 := hc.step hl hf
        rw [List.append_nil] at hs2
        exact ⟨by omega, hs2⟩
  · by_cases hb : (x.s.getD x.pos 0).toNat = 13
    · have hf := in9_13 r (m - 1) _ hb
      rw [if_neg (by omega)] at hf
      have hs2 := hc.step hl hf
      rw [List.append_nil] at hs2
      exact nine _ (by omega) hb hs2
    · have hf := in9_else r (m - 1) _ hb hn
      by_cases h256 : m = 256
      · right; right
        rw [if_pos (by omega)] at hf
        exact ⟨by omega, hc.wrong hl hf (by decide)⟩
      · left
        rw [if_neg (by omega)] at hf
        have hs2 := hc.step hl hf
        rw [List.append_nil] at hs2
        have e : ((m + 1 : Nat) : Int) = (m : Int) - 1 + 1 + 1 := by omega
        rw [e]
        exact ⟨by omega, hs2⟩
  · omega
/-- The line's end stands there. -/
theorem InLine.ends {x : Xr} {out : List UInt8} {r : Rd} {m : Nat} (h : InLine x out r m) (hm : m ≤ 256) (hl : x.pos + 1 < x.s.length) (h13 : (x.s.getD x.pos 0).toNat = 13) (h10 : (x.s.getD (x.pos + 1) 0).toNat = 10) :
    Seen { x with pos := x.pos + 2 } out { r with state := 7, many := m } := by
  obtain ⟨he, hs, _, hm1, hc⟩ := h
  have two : Seen { x with pos := x.pos + 1 } out { r with state := 9, many := m } → Seen { x with pos := x.pos + 2 } out { r with state := 7, many := m } := by
    intro h
    have h2 := h.step (x := { x with pos := x.pos + 1 }) hl (in9_10 r m _ h10)
    rwa [List.append_nil] at h2
  rcases hc with ⟨_, hc⟩ | ⟨_, hc, _, hn⟩ | ⟨h257, _⟩
  · have h2 := hc.step (by omega) (in8_13 r m _ h13 (by omega))
    rw [List.append_nil] at h2
    exact two h2
  · have hf := in9_13 r (m - 1) _ h13
    rw [if_neg (by omega)] at hf
    have h2 := hc.step (by omega) hf
    rw [List.append_nil, show (m : Int) - 1 + 1 = m by omega] at h2
    exact two h2
  · omega
/-- Nothing more stands there, or what may be the beginning of the end. -/
theorem InLine.shorts {x : Xr} {out : List UInt8} {r : Rd} {m : Nat} (h : InLine x out r m) (hm : m ≤ 256) (hl : ¬ x.pos < x.s.length ∨ (x.pos + 1 = x.s.length ∧ (x.s.getD x.pos 0).toNat = 13)) : Shorts x.s out := by
  obtain ⟨he, hs, _, hm1, hc⟩ := h
  rcases hl with hl | ⟨hl, h13⟩
  · rcases hc with ⟨_, hc⟩ | ⟨_, hc, hl', hn⟩ | ⟨h257, _⟩
    · exact hc.short hl (by simp)
    · exact absurd hl' hl
    · omega
  · rcases hc with ⟨_, hc⟩ | ⟨_, hc, _, hn⟩ | ⟨h257, _⟩
    · have h2 := hc.step (by omega) (in8_13 r m _ h13 (by omega))
      rw [List.append_nil] at h2
      exact h2.short (by simp; omega) (by simp)
    · have hf := in9_13 r (m - 1) _ h13
      rw [if_neg (by omega)] at hf
      have h2 := hc.step (by omega) hf
      rw [List.append_nil] at h2
      exact h2.short (by simp; omega) (by simp)
    · omega
/-! ### Behind the last chunk: pure -/
theorem in7_13 (r : Rd) (m : Int) (c : UInt8) (hc : c.toNat = 13) : feed { r with state := 7, many := m } c = ({ r with state := 10, many := m }, [], 0) := by
  simp [feed, byteF, withinF, hc]
theorem in7_else (r : Rd) (m : Int) (c : UInt8) (hc : c.toNat ≠ 13) (hl : r.lines < 32) : feed { r with state := 7, many := m } c = ({ r with state := 8, many := 1, lines := r.lines + 1 }, [], 0) := by
  have h : ¬ r.lines + 1 > 32 := by omega
  simp [feed, byteF, withinF, hc, h]
theorem in7_many (r : Rd) (m : Int) (c : UInt8) (hc : c.toNat ≠ 13) (hl : ¬ r.lines < 32) : ∃ r', feed { r with state := 7, many := m } c = (r', [], 180) := by
  have h : r.lines + 1 > 32 := by omega
  exact ⟨_, by simp [feed, byteF, withinF, hc, h]; rfl⟩
theorem in10_10 (r : Rd) (m : Int) (c : UInt8) (hc : c.toNat = 10) : feed { r with state := 10, many := m } c = ({ r with state := 11, many := m }, [], 0) := by
  simp [feed, byteF, isF, hc]
theorem in10_else (r : Rd) (m : Int) (c : UInt8) (hc : c.toNat ≠ 10) : ∃ r', feed { r with state := 10, many := m } c = (r', [], 180) := by
  have h : ¬ (c.toNat : Int) = 10 := by omega
  exact ⟨_, by simp [feed, byteF, isF, h]; rfl⟩
/-! ### A chunk's line: pure -/
theorem in2_13 (r : Rd) (c : UInt8) (hs : r.state = 2) (hc : c.toNat = 13) (hm : 0 < r.many) : feed r c = ({ r with state := 3 }, [], 0) := by
  simp [feed, byteF, lineF, hs, hc, hm]
theorem in2_digit (r : Rd) (c : UInt8) (hs : r.state = 2) (hc : ¬ (c.toNat = 13 ∧ 0 < r.many)) (hd : 0 ≤ digitF c) (h6 : r.many < 6) : feed r c = ({ r with left := 16 * r.left + digitF c, many := r.many + 1 }, [], 0) := by
  have h1 : ¬ (digitF c < 0 ∨ r.many = 6) := by omega
  have h2 : ¬ (c.toNat = 13 ∧ 0 < r.many) := hc
  simp [feed, byteF, lineF, hs, h1, h2]
theorem in2_bad (r : Rd) (c : UInt8) (hs : r.state = 2) (hc : ¬ (c.toNat = 13 ∧ 0 < r.many)) (hd : digitF c < 0 ∨ r.many = 6) : feed r c = (r, [], 180) := by
  simp [feed, byteF, lineF, hs, hc, hd]
theorem in3_10 (r : Rd) (c : UInt8) (hs : r.state = 3) (hc : c.toNat = 10) : feed r c = ((beginsF { r with state := 4 }).1, [], (beginsF { r with state := 4 }).2) := by
  simp [feed, byteF, hs, hc]
theorem in3_else (r : Rd) (c : UInt8) (hs : r.state = 3) (hc : c.toNat ≠ 10) : feed r c = (r, [], 180) := by
  simp [feed, byteF, hs, hc]
theorem in4 (r : Rd) (c : UInt8) (hs : r.state = 4) : feed r c = ({ r with left := r.left - 1, told := r.told + 1, state := if r.left = 1 then 5 else 4 }, [c], 0) := by
  simp [feed, hs]
theorem in5_13 (r : Rd) (c : UInt8) (hs : r.state = 5) (hc : c.toNat = 13) : feed r c = ({ r with state := 6 }, [], 0) := by
  simp [feed, byteF, isF, hs, hc]
theorem in5_else (r : Rd) (c : UInt8) (hs : r.state = 5) (hc : c.toNat ≠ 13) : feed r c = (r, [], 180) := by
  have h : ¬ (c.toNat : Int) = 13 := by omega
  simp [feed, byteF, isF, hs, h]
theorem in6_10 (r : Rd) (c : UInt8) (hs : r.state = 6) (hc : c.toNat = 10) : feed r c = ({ r with state := 2 }, [], 0) := by
  simp [feed, byteF, isF, hs, hc]
theorem in6_else (r : Rd) (c : UInt8) (hs : r.state = 6) (hc : c.toNat ≠ 10) : feed r c = (r, [], 180) := by
  have h : ¬ (c.toNat : Int) = 10 := by omega
  simp [feed, byteF, isF, hs, h]

/-! ### Nothing is left over ahead of the end -/
theorem rest_same (r : Rd) (c : UInt8) (h : r.state ≠ 11) : (feed r c).1.rest = r.rest := by
  have k := keeps_byte r c
  unfold feed
  rw [if_neg h]
  (repeat' split) <;> first | rfl | exact k.2.2.2
theorem rest_kept0 (s : List UInt8) : ∀ (r r' : Rd) (o : List UInt8), r.rest = [] → feeds r s = (r', o, 0) → r'.state ≠ 11 → r'.rest = [] := by
  induction s with
  | nil => intro r r' o h hf _; rw [feeds_nil] at hf; injection hf with e1 _; rw [← e1]; exact h
  | cons c s ih =>
    intro r r' o h hf hs
    by_cases h11 : r.state = 11
    · rw [feeds_done _ _ h11] at hf
      injection hf with e1 _
      rw [← e1] at hs
      exact absurd h11 hs
    · simp only [feeds] at hf
      by_cases h1 : (feed r c).2.2 = 0
      · rw [if_pos h1] at hf
        by_cases h2 : (feeds (feed r c).1 s).2.2 = 0
        · rw [if_pos h2] at hf
          have e1 : (feeds (feed r c).1 s).1 = r' := (Prod.mk.inj hf).1
          have h3 := ih (feed r c).1 (feeds (feed r c).1 s).1 (feeds (feed r c).1 s).2.1 (by rw [rest_same _ _ h11]; exact h) (by rw [← h2]) (by rw [e1]; exact hs)
          rw [e1] at h3; exact h3
        · rw [if_neg h2] at hf
          injection hf with _ e2
          injection e2 with _ e4
          exact absurd e4 h2
      · rw [if_neg h1] at hf
        injection hf with _ e2
        injection e2 with _ e4
        exact absurd e4 h1
theorem Seen.rest {x : Xr} {out : List UInt8} {r : Rd} (h : Seen x out r) (hs : r.state ≠ 11) : r.rest = [] := rest_kept0 _ rdC r out rfl h.2 hs
end BD
end
section
namespace BD
def LinePost (b : Nat) (x : Xr) (out : List UInt8) (r : Rd) (w : World) (e : Ending) (w' : World) : Prop :=
  e = .returned (.tuple #[]) ∧ Kept [b] w w' ∧ ∃ x', XAt w' b x' ∧ x'.s = x.s ∧ x'.sv = x.sv ∧ (Ended x' out ∨ (x'.e = 0 ∧ x'.short = false ∧ ∃ m : Int, Seen x' out { r with state := 7, many := m }))
set_option maxRecDepth 100000 in
set_option maxHeartbeats 4000000 in
theorem xline_any (b : Nat) (x : Xr) (out : List UInt8) (r : Rd) (w : World) (h : XAt w b x) (hp : x.pos ≤ x.s.length) (hl : x.s.length ≤ 1000000) (hi : Ended x out ∨ InLine x out r 1) :
    Calls Tryz.prog 103 #[Ptr b] w (LinePost b x out r w) := by
  go_enter Tryz.func103, Tryz.ntmps103
  have HI := Lib.hid (And.intro h hi)
  clear h hi
  go_wp2_with (fail)
  go_loopw [2] (fun v wr => ∃ (x' : Xr) (m : Nat), v = I m ∧ m ≤ 258 ∧ x'.pos ≤ x'.s.length ∧ XAt wr b x' ∧ x'.s = x.s ∧ x'.sv = x.sv ∧ Kept [b] w wr ∧ (Ended x' out ∨ InLine x' out r m)) (fun v _ => 300 - (intOf v).toNat)
  case atStart => exact ⟨x, 1, rfl, by omega, hp, HI.out.1, rfl, rfl, Kept.refl _ _, HI.out.2⟩
  case round =>
    obtain ⟨x', m, rfl, hm, hp', hx, hs, hv, hk, hc⟩ := hrel
    have HR := Lib.hid (And.intro hx (And.intro hs (And.intro hv hk)))
    have hl' : x'.s.length ≤ 1000000 := by rw [hs]; exact hl
    rcases hc with hE | hIn
    · have ho := hE.not_ok
      have HE := Lib.hid hE
      clear hx hs hv hk hE
      go_wp2_with (fail)
      refine (okX_any b x' wr HR.out.1).mono ?_
      rintro e w' ⟨rfl, rfl⟩
      rw [ho]
      go_wp2_with (fail)
      exact bodyPost_end (v := .tuple #[]) (by simp [results, Tryz.results103, go_sem]) rfl ⟨rfl, HR.out.2.2.2, x', HR.out.1, HR.out.2.1, HR.out.2.2.1, .inl HE.out⟩
    · have ho : okX x' = true := by simp [okX, hIn.1, hIn.2.1]
      have HN := Lib.hid hIn
      clear hx hs hv hk hIn
      by_cases hm6 : (m : Int) ≤ 256
      · go_wp2_with (fail)
        refine (okX_any b x' wr HR.out.1).mono ?_
        rintro e w' ⟨rfl, rfl⟩
        rw [ho]
        go_wp2_with (fail)
        refine (must_any b x' true 181 wr HR.out.1).mono ?_
        rintro e w2 ⟨rfl, h2, k2⟩
        have hmu : mustF x' true 181 = x' := by simp [mustF]
        rw [hmu] at h2
        have H2 := Lib.hid (And.intro h2 (HR.out.2.2.2.trans' k2))
        obtain ⟨c0, c1, c2, c3, c4⟩ := h2.cells
        obtain ⟨f0, f1, f2, f3, f4⟩ := h2.free
        clear hmu h2 k2
        by_cases hlt : (x'.pos : Int) + 1 < x'.s.length
        · obtain ⟨c, hc⟩ : ∃ c, x'.s[x'.pos]'(by omega) = c := ⟨_, rfl⟩
          obtain ⟨d, hd⟩ : ∃ c, x'.s[x'.pos + 1]'(by omega) = c := ⟨_, rfl⟩
          have gc : x'.s.getD x'.pos 0 = c := by rw [← hc]; simp [List.getD, show x'.pos < x'.s.length by omega]
          have gd : x'.s.getD (x'.pos + 1) 0 = d := by rw [← hd]; simp [List.getD, show x'.pos + 1 < x'.s.length by omega]
          have HG := Lib.hid (And.intro gc gd)
          clear gc gd
          by_cases hc13 : (c.toNat : Int) = 13
          · by_cases hd10 : (d.toNat : Int) = 10
            · go_wp2_with (fail)
              go_quiet (fail)
              go_wp2_with (fail)
              refine (okX_any b x' (w2.drewN nq) H2.out.1).mono ?_
              rintro e w' ⟨rfl, rfl⟩
              rw [ho]
              go_wp2_with (fail)
              have h3 : XAt ((w2.drewN nq).setCell ⟨b, 1, none⟩ (Value.int .i64 ((x'.pos : Int) + 2))) b { x' with pos := x'.pos + 2 } := XAt.set1 (w := w2.drewN nq) (x := x') H2.out.1 (x'.pos + 2)
              have hN := HN.out
              exact bodyPost_ret (v := .tuple #[]) (by simp [results, Tryz.results103, go_sem]) rfl ⟨rfl, (H2.out.2.drewN nq).setCell (.inl (by simp)) _, _, h3, HR.out.2.1, HR.out.2.2.1,
                .inr ⟨hN.1, hN.2.1, m, hN.ends (by omega) (by omega) (by rw [HG.out.1]; omega) (by rw [HG.out.2]; omega)⟩⟩
            · have hdb : ((d.toNat : Int) == 10) = false := by simpa using hd10
              have hneb : ((x'.pos : Int) + 1 == x'.s.length) = false := by simp; omega
              have hnx : Hid (nextF x' = { x' with pos := x'.pos + 1 }) := Lib.hid (by unfold nextF; rw [if_pos (by omega), if_pos ho])
              go_wp2_with (fail)
              go_quiet (fail)
              go_wp2_with (fail)
              go_quiet (fail)
              go_wp2_with (fail)
              refine (next_any b x' _ (by exact H2.out.1) hp' hl').mono ?_
              rintro e w3 ⟨rfl, h3, k3⟩
              have H3 := Lib.hid (And.intro h3 (Kept.trans' (S := [b]) (a := w) (by first | exact H2.out.2 | exact H2.out.2.drewN _ | exact (H2.out.2.drewN _).drewN _ | exact (H2.out.2.setCell (.inl (by simp)) _) | exact (H2.out.2.drewN _).setCell (.inl (by simp)) _ | exact ((H2.out.2.drewN _).drewN _).setCell (.inl (by simp)) _ | exact ((H2.out.2.setCell (.inl (by simp)) _).drewN _)) k3))
              clear h3 k3
              go_wp2_with (fail)
              go_roundw
              case rel => exact ⟨{ x' with pos := x'.pos + 1 }, m + 1, by go_num, by omega, by show x'.pos + 1 ≤ x'.s.length; omega, by have := H3.out.1; rwa [hnx.out] at this, HR.out.2.1, HR.out.2.2.1, H3.out.2, .inr (HN.out.step (by omega) (by omega) (by rintro ⟨_, _, h⟩; rw [HG.out.2] at h; omega) (by rintro ⟨h, _⟩; omega))⟩
              case measure => simp [intOf]; omega
          · have hcb : ((c.toNat : Int) == 13) = false := by simpa using hc13
            have hneb : ((x'.pos : Int) + 1 == x'.s.length) = false := by simp; omega
            have hnx : Hid (nextF x' = { x' with pos := x'.pos + 1 }) := Lib.hid (by unfold nextF; rw [if_pos (by omega), if_pos ho])
            go_wp2_with (fail)
            go_quiet (fail)
            go_wp2_with (fail)
            go_quiet (fail)
            go_wp2_with (fail)
            refine (next_any b x' _ (by exact H2.out.1) hp' hl').mono ?_
            rintro e w3 ⟨rfl, h3, k3⟩
            have H3 := Lib.hid (And.intro h3 (Kept.trans' (S := [b]) (a := w) (by first | exact H2.out.2 | exact H2.out.2.drewN _ | exact (H2.out.2.drewN _).drewN _ | exact (H2.out.2.setCell (.inl (by simp)) _) | exact (H2.out.2.drewN _).setCell (.inl (by simp)) _ | exact ((H2.out.2.drewN _).drewN _).setCell (.inl (by simp)) _ | exact ((H2.out.2.setCell (.inl (by simp)) _).drewN _)) k3))
            clear h3 k3
            go_wp2_with (fail)
            go_roundw
            case rel => exact ⟨{ x' with pos := x'.pos + 1 }, m + 1, by go_num, by omega, by show x'.pos + 1 ≤ x'.s.length; omega, by have := H3.out.1; rwa [hnx.out] at this, HR.out.2.1, HR.out.2.2.1, H3.out.2, .inr (HN.out.step (by omega) (by omega) (by rintro ⟨_, h, _⟩; rw [HG.out.1] at h; omega) (by rintro ⟨h, _⟩; omega))⟩
            case measure => simp [intOf]; omega
        · by_cases hle : (x'.pos : Int) + 1 = x'.s.length
          · obtain ⟨c, hc⟩ : ∃ c, x'.s[x'.pos]'(by omega) = c := ⟨_, rfl⟩
            have gc : x'.s.getD x'.pos 0 = c := by rw [← hc]; simp [List.getD, show x'.pos < x'.s.length by omega]
            have HG := Lib.hid gc
            clear gc
            have hlb : ((x'.pos : Int) + 1 == x'.s.length) = true := by simpa using hle
            by_cases hc13 : (c.toNat : Int) = 13
            · have hcb : ((c.toNat : Int) == 13) = true := by simpa using hc13
              have hnx : Hid (nextF { x' with short := true } = { x' with short := true }) := Lib.hid (by unfold nextF; rw [if_pos (by show (x'.pos : Int) < x'.s.length; omega), if_neg (by simp [okX])])
              go_wp2_with (fail)
              go_quiet (fail)
              go_wp2_with (fail)
              go_quiet (fail)
              go_wp2_with (fail)
              refine (next_any b { x' with short := true } _ (by refine XAt.set4 (x := x') ?_ true; exact H2.out.1) hp' hl').mono ?_
              rintro e w3 ⟨rfl, h3, k3⟩
              have H3 := Lib.hid (And.intro h3 (Kept.trans' (S := [b]) (a := w) (by first | exact H2.out.2 | exact H2.out.2.drewN _ | exact (H2.out.2.drewN _).drewN _ | exact (H2.out.2.setCell (.inl (by simp)) _) | exact (H2.out.2.drewN _).setCell (.inl (by simp)) _ | exact ((H2.out.2.drewN _).drewN _).setCell (.inl (by simp)) _ | exact ((H2.out.2.setCell (.inl (by simp)) _).drewN _)) k3))
              clear h3 k3
              go_wp2_with (fail)
              go_roundw
              case rel => exact ⟨{ x' with short := true }, m + 1, by go_num, by omega, hp', by have := H3.out.1; rwa [hnx.out] at this, HR.out.2.1, HR.out.2.2.1, H3.out.2, .inl (.inl ⟨rfl, HN.out.1, HN.out.shorts (by omega) (.inr ⟨by omega, by rw [HG.out]; omega⟩)⟩)⟩
              case measure => simp [intOf]; omega
            · have hcb : ((c.toNat : Int) == 13) = false := by simpa using hc13
              have hnx : Hid (nextF x' = { x' with pos := x'.pos + 1 }) := Lib.hid (by unfold nextF; rw [if_pos (by omega), if_pos ho])
              go_wp2_with (fail)
              go_quiet (fail)
              go_wp2_with (fail)
              go_quiet (fail)
              go_wp2_with (fail)
              refine (next_any b x' _ (by exact H2.out.1) hp' hl').mono ?_
              rintro e w3 ⟨rfl, h3, k3⟩
              have H3 := Lib.hid (And.intro h3 (Kept.trans' (S := [b]) (a := w) (by first | exact H2.out.2 | exact H2.out.2.drewN _ | exact (H2.out.2.drewN _).drewN _ | exact (H2.out.2.setCell (.inl (by simp)) _) | exact (H2.out.2.drewN _).setCell (.inl (by simp)) _ | exact ((H2.out.2.drewN _).drewN _).setCell (.inl (by simp)) _ | exact ((H2.out.2.setCell (.inl (by simp)) _).drewN _)) k3))
              clear h3 k3
              go_wp2_with (fail)
              go_roundw
              case rel => exact ⟨{ x' with pos := x'.pos + 1 }, m + 1, by go_num, by omega, by show x'.pos + 1 ≤ x'.s.length; omega, by have := H3.out.1; rwa [hnx.out] at this, HR.out.2.1, HR.out.2.2.1, H3.out.2, .inr (HN.out.step (by omega) (by omega) (by rintro ⟨h, _⟩; omega) (by rintro ⟨_, h⟩; rw [HG.out] at h; omega))⟩
              case measure => simp [intOf]; omega
          · have hlb : ((x'.pos : Int) + 1 == x'.s.length) = false := by simpa using hle
            have hdf : decide ((x'.pos : Int) + 1 < x'.s.length) = false := decide_eq_false hlt
            have hwr : IntKind.i64.wrap ((x'.pos : Int) + 1) = (x'.pos : Int) + 1 := by rw [IntKind.wrap_i64]; omega
            have hnx : Hid (nextF x' = { x' with short := true }) := Lib.hid (by unfold nextF; rw [if_neg (by omega)])
            go_wp2_with (fail)
            go_quiet (fail)
            go_wp2_with (fail)
            go_quiet (fail)
            go_wp2_with (fail)
            refine (next_any b x' _ (by exact H2.out.1) hp' hl').mono ?_
            rintro e w3 ⟨rfl, h3, k3⟩
            have H3 := Lib.hid (And.intro h3 (Kept.trans' (S := [b]) (a := w) (by first | exact H2.out.2 | exact H2.out.2.drewN _ | exact (H2.out.2.drewN _).drewN _ | exact (H2.out.2.setCell (.inl (by simp)) _) | exact (H2.out.2.drewN _).setCell (.inl (by simp)) _ | exact ((H2.out.2.drewN _).drewN _).setCell (.inl (by simp)) _ | exact ((H2.out.2.setCell (.inl (by simp)) _).drewN _)) k3))
            clear h3 k3
            go_wp2_with (fail)
            go_roundw
            case rel => exact ⟨{ x' with short := true }, m + 1, by go_num, by omega, hp', by have := H3.out.1; rwa [hnx.out] at this, HR.out.2.1, HR.out.2.2.1, H3.out.2, .inl (.inl ⟨rfl, HN.out.1, HN.out.shorts (by omega) (.inl (by omega))⟩)⟩
            case measure => simp [intOf]; omega
      · have h257 : m = 257 := by rcases HN.out.2.2.2.2 with ⟨h, _⟩ | ⟨h, _⟩ | ⟨h, _⟩ <;> omega
        have HW : Hid (Wrong x'.s 181) := Lib.hid (by
          rcases HN.out.2.2.2.2 with ⟨h, _⟩ | ⟨h, _⟩ | ⟨_, h⟩
          · omega
          · omega
          · exact h)
        have hm6' : decide ((m : Int) ≤ 256) = false := decide_eq_false hm6
        have ho2 : okX { x' with e := 181 } = false := by simp [okX]
        have ho3 : okX { x' with e := 181, short := true } = false := by simp [okX]
        go_wp2_with (fail)
        refine (okX_any b x' wr HR.out.1).mono ?_
        rintro e w' ⟨rfl, rfl⟩
        rw [ho]
        go_wp2_with (fail)
        refine (must_any b x' false 181 wr HR.out.1).mono ?_
        rintro e w2 ⟨rfl, h2, k2⟩
        have hmu : mustF x' false 181 = { x' with e := 181 } := by simp [mustF, ho]
        rw [hmu] at h2
        have H2 := Lib.hid (And.intro h2 (HR.out.2.2.2.trans' k2))
        obtain ⟨c0, c1, c2, c3, c4⟩ := h2.cells
        obtain ⟨f0, f1, f2, f3, f4⟩ := h2.free
        simp only at c0 c1 c2 c3 c4
        clear hmu h2 k2
        by_cases hlt : (x'.pos : Int) + 1 < x'.s.length
        · obtain ⟨c, hc⟩ : ∃ c, x'.s[x'.pos]'(by omega) = c := ⟨_, rfl⟩
          obtain ⟨d, hd⟩ : ∃ c, x'.s[x'.pos + 1]'(by omega) = c := ⟨_, rfl⟩
          have hneb : ((x'.pos : Int) + 1 == x'.s.length) = false := by simp; omega
          have hnx : Hid (nextF { x' with e := 181 } = { x' with e := 181 }) := Lib.hid (by unfold nextF; rw [if_pos (by show (x'.pos : Int) < x'.s.length; omega), if_neg (by simp [ho2])])
          by_cases hc13 : (c.toNat : Int) = 13
          · by_cases hd10 : (d.toNat : Int) = 10
            · go_wp2_with (fail)
              go_quiet (fail)
              go_wp2_with (fail)
              refine (okX_any b { x' with e := 181 } (w2.drewN nq) H2.out.1).mono ?_
              rintro e w' ⟨rfl, rfl⟩
              rw [ho2]
              go_wp2_with (fail)
              exact bodyPost_ret (v := .tuple #[]) (by simp [results, Tryz.results103, go_sem]) rfl ⟨rfl, H2.out.2.drewN nq, { x' with e := 181 }, H2.out.1, HR.out.2.1, HR.out.2.2.1, .inl (.inr ⟨by show (181 : Int) ≠ 0; decide, HW.out⟩)⟩
            · have hdb : ((d.toNat : Int) == 10) = false := by simpa using hd10
              go_wp2_with (fail)
              go_quiet (fail)
              go_wp2_with (fail)
              go_quiet (fail)
              go_wp2_with (fail)
              refine (next_any b { x' with e := 181 } _ (by exact H2.out.1) hp' hl').mono ?_
              rintro e w3 ⟨rfl, h3, k3⟩
              have H3 := Lib.hid (And.intro h3 (Kept.trans' (S := [b]) (a := w) (by first | exact H2.out.2 | exact H2.out.2.drewN _ | exact (H2.out.2.drewN _).drewN _ | exact (H2.out.2.setCell (.inl (by simp)) _) | exact (H2.out.2.drewN _).setCell (.inl (by simp)) _ | exact ((H2.out.2.drewN _).drewN _).setCell (.inl (by simp)) _ | exact ((H2.out.2.setCell (.inl (by simp)) _).drewN _)) k3))
              clear h3 k3
              go_wp2_with (fail)
              go_roundw
              case rel => exact ⟨{ x' with e := 181 }, m + 1, by go_num, by omega, hp', by have := H3.out.1; rwa [hnx.out] at this, HR.out.2.1, HR.out.2.2.1, H3.out.2, .inl (.inr ⟨by show (181 : Int) ≠ 0; decide, HW.out⟩)⟩
              case measure => simp [intOf]; omega
          · have hcb : ((c.toNat : Int) == 13) = false := by simpa using hc13
            go_wp2_with (fail)
            go_quiet (fail)
            go_wp2_with (fail)
            go_quiet (fail)
            go_wp2_with (fail)
            refine (next_any b { x' with e := 181 } _ (by exact H2.out.1) hp' hl').mono ?_
            rintro e w3 ⟨rfl, h3, k3⟩
            have H3 := Lib.hid (And.intro h3 (Kept.trans' (S := [b]) (a := w) (by first | exact H2.out.2 | exact H2.out.2.drewN _ | exact (H2.out.2.drewN _).drewN _ | exact (H2.out.2.setCell (.inl (by simp)) _) | exact (H2.out.2.drewN _).setCell (.inl (by simp)) _ | exact ((H2.out.2.drewN _).drewN _).setCell (.inl (by simp)) _ | exact ((H2.out.2.setCell (.inl (by simp)) _).drewN _)) k3))
            clear h3 k3
            go_wp2_with (fail)
            go_roundw
            case rel => exact ⟨{ x' with e := 181 }, m + 1, by go_num, by omega, hp', by have := H3.out.1; rwa [hnx.out] at this, HR.out.2.1, HR.out.2.2.1, H3.out.2, .inl (.inr ⟨by show (181 : Int) ≠ 0; decide, HW.out⟩)⟩
            case measure => simp [intOf]; omega
        · by_cases hle : (x'.pos : Int) + 1 = x'.s.length
          · obtain ⟨c, hc⟩ : ∃ c, x'.s[x'.pos]'(by omega) = c := ⟨_, rfl⟩
            have hlb : ((x'.pos : Int) + 1 == x'.s.length) = true := by simpa using hle
            by_cases hc13 : (c.toNat : Int) = 13
            · have hcb : ((c.toNat : Int) == 13) = true := by simpa using hc13
              have hnx : Hid (nextF { x' with e := 181, short := true } = { x' with e := 181, short := true }) := Lib.hid (by unfold nextF; rw [if_pos (by show (x'.pos : Int) < x'.s.length; omega), if_neg (by simp [ho3])])
              go_wp2_with (fail)
              go_quiet (fail)
              go_wp2_with (fail)
              go_quiet (fail)
              go_wp2_with (fail)
              refine (next_any b { x' with e := 181, short := true } _ (by refine XAt.set4 (x := { x' with e := 181 }) ?_ true; exact H2.out.1) hp' hl').mono ?_
              rintro e w3 ⟨rfl, h3, k3⟩
              have H3 := Lib.hid (And.intro h3 (Kept.trans' (S := [b]) (a := w) (by first | exact H2.out.2 | exact H2.out.2.drewN _ | exact (H2.out.2.drewN _).drewN _ | exact (H2.out.2.setCell (.inl (by simp)) _) | exact (H2.out.2.drewN _).setCell (.inl (by simp)) _ | exact ((H2.out.2.drewN _).drewN _).setCell (.inl (by simp)) _ | exact ((H2.out.2.setCell (.inl (by simp)) _).drewN _)) k3))
              clear h3 k3
              go_wp2_with (fail)
              go_roundw
              case rel => exact ⟨{ x' with e := 181, short := true }, m + 1, by go_num, by omega, hp', by have := H3.out.1; rwa [hnx.out] at this, HR.out.2.1, HR.out.2.2.1, H3.out.2, .inl (.inr ⟨by show (181 : Int) ≠ 0; decide, HW.out⟩)⟩
              case measure => simp [intOf]; omega
            · have hcb : ((c.toNat : Int) == 13) = false := by simpa using hc13
              have hnx : Hid (nextF { x' with e := 181 } = { x' with e := 181 }) := Lib.hid (by unfold nextF; rw [if_pos (by show (x'.pos : Int) < x'.s.length; omega), if_neg (by simp [ho2])])
              go_wp2_with (fail)
              go_quiet (fail)
              go_wp2_with (fail)
              go_quiet (fail)
              go_wp2_with (fail)
              refine (next_any b { x' with e := 181 } _ (by exact H2.out.1) hp' hl').mono ?_
              rintro e w3 ⟨rfl, h3, k3⟩
              have H3 := Lib.hid (And.intro h3 (Kept.trans' (S := [b]) (a := w) (by first | exact H2.out.2 | exact H2.out.2.drewN _ | exact (H2.out.2.drewN _).drewN _ | exact (H2.out.2.setCell (.inl (by simp)) _) | exact (H2.out.2.drewN _).setCell (.inl (by simp)) _ | exact ((H2.out.2.drewN _).drewN _).setCell (.inl (by simp)) _ | exact ((H2.out.2.setCell (.inl (by simp)) _).drewN _)) k3))
              clear h3 k3
              go_wp2_with (fail)
              go_roundw
              case rel => exact ⟨{ x' with e := 181 }, m + 1, by go_num, by omega, hp', by have := H3.out.1; rwa [hnx.out] at this, HR.out.2.1, HR.out.2.2.1, H3.out.2, .inl (.inr ⟨by show (181 : Int) ≠ 0; decide, HW.out⟩)⟩
              case measure => simp [intOf]; omega
          · have hlb : ((x'.pos : Int) + 1 == x'.s.length) = false := by simpa using hle
            have hdf : decide ((x'.pos : Int) + 1 < x'.s.length) = false := decide_eq_false hlt
            have hwr : IntKind.i64.wrap ((x'.pos : Int) + 1) = (x'.pos : Int) + 1 := by rw [IntKind.wrap_i64]; omega
            have hnx : Hid (nextF { x' with e := 181 } = { x' with e := 181, short := true }) := Lib.hid (by unfold nextF; rw [if_neg (by show ¬ (x'.pos : Int) < x'.s.length; omega)])
            go_wp2_with (fail)
            go_quiet (fail)
            go_wp2_with (fail)
            go_quiet (fail)
            go_wp2_with (fail)
            refine (next_any b { x' with e := 181 } _ (by exact H2.out.1) hp' hl').mono ?_
            rintro e w3 ⟨rfl, h3, k3⟩
            have H3 := Lib.hid (And.intro h3 (Kept.trans' (S := [b]) (a := w) (by first | exact H2.out.2 | exact H2.out.2.drewN _ | exact (H2.out.2.drewN _).drewN _ | exact (H2.out.2.setCell (.inl (by simp)) _) | exact (H2.out.2.drewN _).setCell (.inl (by simp)) _ | exact ((H2.out.2.drewN _).drewN _).setCell (.inl (by simp)) _ | exact ((H2.out.2.setCell (.inl (by simp)) _).drewN _)) k3))
            clear h3 k3
            go_wp2_with (fail)
            go_roundw
            case rel => exact ⟨{ x' with e := 181, short := true }, m + 1, by go_num, by omega, hp', by have := H3.out.1; rwa [hnx.out] at this, HR.out.2.1, HR.out.2.2.1, H3.out.2, .inl (.inr ⟨by show (181 : Int) ≠ 0; decide, HW.out⟩)⟩
            case measure => simp [intOf]; omega
end BD
end
section
namespace BD
def BehPost (b : Nat) (x : Xr) (out : List UInt8) (w : World) (e : Ending) (w' : World) : Prop :=
  e = .returned (.tuple #[]) ∧ Kept [b] w w' ∧ ∃ x', XAt w' b x' ∧ x'.s = x.s ∧ x'.sv = x.sv ∧ (Ended x' out ∨ (x'.e = 0 ∧ x'.short = false ∧ ∃ r', Seen x' out r' ∧ r'.state = 11 ∧ r'.rest = []))
/-- Between two lines: n of them were read. -/
def AtLine (x : Xr) (out : List UInt8) (n : Nat) : Prop := x.e = 0 ∧ x.short = false ∧ n ≤ 32 ∧ ∃ (r : Rd) (m : Int), r.lines = n ∧ Seen x out { r with state := 7, many := m }
set_option maxRecDepth 100000 in
set_option maxHeartbeats 4000000 in
theorem xline_off (b : Nat) (x : Xr) (w : World) (h : XAt w b x) (ho : okX x = false) :
    Calls Tryz.prog 103 #[Ptr b] w fun e w' => e = .returned (.tuple #[]) ∧ w = w' := by
  have H := Lib.hid h
  clear h
  go_enter Tryz.func103, Tryz.ntmps103
  go_wp2_with (fail)
  go_loopw [2] (fun v wr => wr = w) (fun v _ => 0)
  case atStart => rfl
  case round =>
    obtain rfl := hrel
    go_wp2_with (fail)
    refine (okX_any b x _ H.out).mono ?_
    rintro e w' ⟨rfl, rfl⟩
    rw [ho]
    go_wp2_with (fail)
    exact bodyPost_end (v := .tuple #[]) (by simp [results, Tryz.results103, go_sem]) rfl ⟨rfl, rfl⟩
set_option maxRecDepth 100000 in
set_option maxHeartbeats 4000000 in
theorem xbehind_any (b : Nat) (x : Xr) (out : List UInt8) (w : World) (h : XAt w b x) (hp : x.pos ≤ x.s.length) (hl : x.s.length ≤ 1000000) (hi : Ended x out ∨ AtLine x out 0) :
    Calls Tryz.prog 76 #[Ptr b] w (BehPost b x out w) := by
  go_enter Tryz.func76, Tryz.ntmps76
  have HI := Lib.hid (And.intro h hi)
  clear h hi
  go_wp2_with (fail)
  go_loopw [2, 3] (fun v _ wr => ∃ (x' : Xr) (n : Nat), v = I n ∧ n ≤ 33 ∧ XAt wr b x' ∧ x'.s = x.s ∧ x'.sv = x.sv ∧ Kept [b] w wr ∧ (Ended x' out ∨ AtLine x' out n)) (fun v _ _ => 40 - (intOf v).toNat)
  case atStart => exact ⟨x, 0, rfl, by omega, HI.out.1, rfl, rfl, Kept.refl _ _, HI.out.2⟩
  case round =>
    obtain ⟨x', n, rfl, hn, hx, hs, hv, hk, hc⟩ := hrel
    have HR := Lib.hid (And.intro hx (And.intro hs (And.intro hv hk)))
    have hl' : x'.s.length ≤ 1000000 := by rw [hs]; exact hl
    rcases hc with hE | hA
    · have ho := hE.not_ok
      have HE := Lib.hid hE
      clear hx hs hv hk hE
      go_wp2_with (fail)
      refine (okX_any b x' wr HR.out.1).mono ?_
      rintro e w' ⟨rfl, rfl⟩
      rw [ho]
      go_wp2_with (fail)
      exact bodyPost_end (v := .tuple #[]) (by simp [results, Tryz.results76, go_sem]) rfl ⟨rfl, HR.out.2.2.2, x', HR.out.1, HR.out.2.1, HR.out.2.2.1, .inl HE.out⟩
    · have ho : okX x' = true := by simp [okX, hA.1, hA.2.1]
      have hp' : x'.pos ≤ x'.s.length := by obtain ⟨_, _, _, _, _, _, h⟩ := hA; exact h.1
      have HN := Lib.hid hA
      clear hx hs hv hk hA
      go_wp2_with (fail)
      refine (okX_any b x' wr HR.out.1).mono ?_
      rintro e w' ⟨rfl, rfl⟩
      rw [ho]
      go_wp2_with (fail)
      refine (next_any b x' wr HR.out.1 hp' hl').mono ?_
      rintro e w2 ⟨rfl, h2, k2⟩
      have H2 := Lib.hid (And.intro h2 (HR.out.2.2.2.trans' k2))
      clear h2 k2
      go_wp2_with (fail)
      refine (okX_any b (nextF x') w2 H2.out.1).mono ?_
      rintro e w' ⟨rfl, rfl⟩
      obtain ⟨he0, hs0, hn32, r, mm, hrl, hseen⟩ := HN.out
      have HS := Lib.hid hseen
      have HRL := Lib.hid (And.intro hrl (And.intro hn32 (And.intro he0 hs0)))
      clear hseen hrl he0 hs0
      by_cases hlt : x'.pos < x'.s.length
      · obtain ⟨c, hc⟩ : ∃ c, x'.s.getD x'.pos 0 = c := ⟨_, rfl⟩
        have hnx : nextF x' = { x' with pos := x'.pos + 1 } := by unfold nextF; rw [if_pos (by omega), if_pos ho]
        have hnb : nextB x' = c := by unfold nextB; rw [if_pos ho, hc]
        have hoX : okX { x' with pos := x'.pos + 1 } = true := ho
        have HC := Lib.hid hc
        clear hc
        rw [hnx] at H2 ⊢
        rw [hnb, hoX]
        have HX := Lib.hid hnx
        clear hnx hnb
        by_cases hc13 : (c.toNat : Int) = 13
        · have hcb : ((c.toNat : Int) == 13) = true := by simpa using hc13
          go_wp2_with (fail)
          have HT : Hid (Seen { x' with pos := x'.pos + 1 } out { r with state := 10, many := mm }) := Lib.hid (by
            have h1 := HS.out.step hlt (by rw [HC.out]; exact in7_13 r mm c (by omega))
            simpa using h1)
          by_cases hl2 : x'.pos + 1 < x'.s.length
          · obtain ⟨d, hd⟩ : ∃ d, x'.s.getD (x'.pos + 1) 0 = d := ⟨_, rfl⟩
            refine (next_any b { x' with pos := x'.pos + 1 } w2 H2.out.1 (by show x'.pos + 1 ≤ x'.s.length; omega) hl').mono ?_
            rintro e w3 ⟨rfl, h3, k3⟩
            have hnx2 : nextF { x' with pos := x'.pos + 1 } = { x' with pos := x'.pos + 2 } := by unfold nextF; rw [if_pos (by show ((x'.pos + 1 : Nat) : Int) < x'.s.length; omega), if_pos hoX]
            have hnb2 : nextB { x' with pos := x'.pos + 1 } = d := by unfold nextB; rw [if_pos hoX]; exact hd
            have ho2 : okX { x' with pos := x'.pos + 2 } = true := ho
            rw [hnx2] at h3
            rw [hnb2]
            have H3 := Lib.hid (And.intro h3 (H2.out.2.trans' k3))
            have HD := Lib.hid hd
            clear h3 k3 hnx2 hnb2 hd
            by_cases hd10 : (d.toNat : Int) = 10
            · have hdb : ((d.toNat : Int) == 10) = true := by simpa using hd10
              have HF : Hid (Seen { x' with pos := x'.pos + 2 } out { r with state := 11, many := mm }) := Lib.hid (by
                have h1 := HT.out.step (x := { x' with pos := x'.pos + 1 }) hl2 (by show feed _ (x'.s.getD (x'.pos + 1) 0) = _; rw [HD.out]; exact in10_10 r mm d (by omega))
                simpa using h1)
              go_wp2_with (fail)
              refine (must_any b { x' with pos := x'.pos + 2 } true 180 w3 H3.out.1).mono ?_
              rintro e w4 ⟨rfl, h4, k4⟩
              have hmu : mustF { x' with pos := x'.pos + 2 } true 180 = { x' with pos := x'.pos + 2 } := by simp [mustF]
              rw [hmu] at h4
              have H4 := Lib.hid (And.intro h4 (H3.out.2.trans' k4))
              clear hmu h4 k4
              go_wp2_with (fail)
              exact bodyPost_ret (v := .tuple #[]) (by simp [results, Tryz.results76, go_sem]) rfl ⟨rfl, H4.out.2, { x' with pos := x'.pos + 2 }, H4.out.1, HR.out.2.1, HR.out.2.2.1, .inr ⟨HRL.out.2.2.1, HRL.out.2.2.2, _, HF.out, rfl, HS.out.rest (by show (7 : Int) ≠ 11; decide)⟩⟩
            · have hdb : ((d.toNat : Int) == 10) = false := by simpa using hd10
              have HF : Hid (Wrong x'.s 180) := Lib.hid (by
                obtain ⟨r', hr'⟩ := in10_else r mm d (by omega)
                exact HT.out.wrong (x := { x' with pos := x'.pos + 1 }) hl2 (by show feed _ (x'.s.getD (x'.pos + 1) 0) = _; rw [HD.out]; exact hr') (by decide))
              go_wp2_with (fail)
              refine (must_any b { x' with pos := x'.pos + 2 } false 180 w3 H3.out.1).mono ?_
              rintro e w4 ⟨rfl, h4, k4⟩
              have hmu : mustF { x' with pos := x'.pos + 2 } false 180 = { x' with pos := x'.pos + 2, e := 180 } := by simp [mustF, ho2]
              rw [hmu] at h4
              have H4 := Lib.hid (And.intro h4 (H3.out.2.trans' k4))
              clear hmu h4 k4
              go_wp2_with (fail)
              exact bodyPost_ret (v := .tuple #[]) (by simp [results, Tryz.results76, go_sem]) rfl ⟨rfl, H4.out.2, { x' with pos := x'.pos + 2, e := 180 }, H4.out.1, HR.out.2.1, HR.out.2.2.1, .inl (.inr ⟨by show (180 : Int) ≠ 0; decide, HF.out⟩)⟩
          · refine (next_any b { x' with pos := x'.pos + 1 } w2 H2.out.1 (by show x'.pos + 1 ≤ x'.s.length; omega) hl').mono ?_
            rintro e w3 ⟨rfl, h3, k3⟩
            have hnx2 : nextF { x' with pos := x'.pos + 1 } = { x' with pos := x'.pos + 1, short := true } := by unfold nextF; rw [if_neg (by show ¬ ((x'.pos + 1 : Nat) : Int) < x'.s.length; omega)]
            have hof : okX { x' with pos := x'.pos + 1, short := true } = false := by simp [okX]
            rw [hnx2] at h3
            obtain ⟨d, hd⟩ : ∃ d, nextB { x' with pos := x'.pos + 1 } = d := ⟨_, rfl⟩
            rw [hd]
            have H3 := Lib.hid (And.intro h3 (H2.out.2.trans' k3))
            clear h3 k3 hnx2 hd
            have HF : Hid (Ended { x' with pos := x'.pos + 1, short := true } out) := Lib.hid (.inl ⟨rfl, HRL.out.2.2.1, HT.out.short (x := { x' with pos := x'.pos + 1 }) hl2 (by simp)⟩)
            obtain ⟨q, hq⟩ : ∃ q, ((d.toNat : Int) == 10) = q := ⟨_, rfl⟩
            go_wp2_with (fail)
            refine (must_any b { x' with pos := x'.pos + 1, short := true } q 180 w3 H3.out.1).mono ?_
            rintro e w4 ⟨rfl, h4, k4⟩
            have hmu : mustF { x' with pos := x'.pos + 1, short := true } q 180 = { x' with pos := x'.pos + 1, short := true } := by unfold mustF; rw [if_neg (by simp [hof])]
            rw [hmu] at h4
            have H4 := Lib.hid (And.intro h4 (H3.out.2.trans' k4))
            clear hmu h4 k4
            go_wp2_with (fail)
            exact bodyPost_ret (v := .tuple #[]) (by simp [results, Tryz.results76, go_sem]) rfl ⟨rfl, H4.out.2, { x' with pos := x'.pos + 1, short := true }, H4.out.1, HR.out.2.1, HR.out.2.2.1, .inl HF.out⟩
        · have hcb : ((c.toNat : Int) == 13) = false := by simpa using hc13
          by_cases hn3 : (n : Int) < 32
          · have HT : Hid (Seen { x' with pos := x'.pos + 1 } out { r with state := 8, many := 1, lines := r.lines + 1 }) := Lib.hid (by
              have h1 := HS.out.step hlt (by rw [HC.out]; exact in7_else r mm c (by omega) (by rw [HRL.out.1]; exact hn3))
              simpa using h1)
            go_wp2_with (fail)
            refine (must_any b { x' with pos := x'.pos + 1 } true 180 w2 H2.out.1).mono ?_
            rintro e w3 ⟨rfl, h3, k3⟩
            have hmu : mustF { x' with pos := x'.pos + 1 } true 180 = { x' with pos := x'.pos + 1 } := by simp [mustF]
            rw [hmu] at h3
            have H3 := Lib.hid (And.intro h3 (H2.out.2.trans' k3))
            clear hmu h3 k3
            go_wp2_with (fail)
            refine (xline_any b { x' with pos := x'.pos + 1 } out { r with lines := r.lines + 1 } w3 H3.out.1 (by show x'.pos + 1 ≤ x'.s.length; omega) hl' (.inr ⟨HRL.out.2.2.1, HRL.out.2.2.2, by show x'.pos + 1 ≤ x'.s.length; omega, by omega, .inl ⟨by omega, HT.out⟩⟩)).mono ?_
            rintro e w4 ⟨rfl, k4, x2, hx2, hs2, hv2, hc2⟩
            have H4 := Lib.hid (And.intro hx2 (And.intro (hs2.trans HR.out.2.1) (And.intro (hv2.trans HR.out.2.2.1) (H3.out.2.trans' k4))))
            have HC2 := Lib.hid hc2
            clear k4 hx2 hs2 hv2 hc2
            go_wp2_with (fail)
            go_roundw
            case rel =>
              refine ⟨x2, n + 1, by go_num, by omega, H4.out.1, H4.out.2.1, H4.out.2.2.1, H4.out.2.2.2, ?_⟩
              rcases HC2.out with h | ⟨h1, h2, m2, h3⟩
              · exact .inl h
              · exact .inr ⟨h1, h2, by omega, { r with lines := r.lines + 1 }, m2, by show r.lines + 1 = _; rw [HRL.out.1]; omega, h3⟩
            case measure => simp [intOf]; omega
          · have hnf : decide ((n : Int) < 32) = false := decide_eq_false hn3
            have HF : Hid (Wrong x'.s 180) := Lib.hid (by
              obtain ⟨r', hr'⟩ := in7_many r mm c (by omega) (by rw [HRL.out.1]; exact hn3)
              exact HS.out.wrong hlt (by rw [HC.out]; exact hr') (by decide))
            have hoe : okX { x' with pos := x'.pos + 1, e := 180 } = false := by simp [okX]
            go_wp2_with (fail)
            refine (must_any b { x' with pos := x'.pos + 1 } false 180 w2 H2.out.1).mono ?_
            rintro e w3 ⟨rfl, h3, k3⟩
            have hmu : mustF { x' with pos := x'.pos + 1 } false 180 = { x' with pos := x'.pos + 1, e := 180 } := by simp [mustF, hoX]
            rw [hmu] at h3
            have H3 := Lib.hid (And.intro h3 (H2.out.2.trans' k3))
            clear hmu h3 k3
            go_wp2_with (fail)
            refine (xline_off b { x' with pos := x'.pos + 1, e := 180 } w3 H3.out.1 hoe).mono ?_
            rintro e w4 ⟨rfl, rfl⟩
            go_wp2_with (fail)
            go_roundw
            case rel => exact ⟨{ x' with pos := x'.pos + 1, e := 180 }, n + 1, by go_num, by omega, H3.out.1, HR.out.2.1, HR.out.2.2.1, H3.out.2, .inl (.inr ⟨by show (180 : Int) ≠ 0; decide, HF.out⟩)⟩
            case measure => simp [intOf]; omega
      · have hnx : nextF x' = { x' with short := true } := by unfold nextF; rw [if_neg (by omega)]
        have hok : okX { x' with short := true } = false := by simp [okX]
        rw [hnx] at H2 ⊢
        rw [hok]
        clear hnx
        have HE : Hid (Ended { x' with short := true } out) := Lib.hid (.inl ⟨rfl, HRL.out.2.2.1, HS.out.short hlt (by simp)⟩)
        go_wp2_with (fail)
        refine (must_any b { x' with short := true } (decide ((n : Int) < 32)) 180 w2 H2.out.1).mono ?_
        rintro e w3 ⟨rfl, h3, k3⟩
        have hmu : mustF { x' with short := true } (decide ((n : Int) < 32)) 180 = { x' with short := true } := by unfold mustF; rw [if_neg (by simp [hok])]
        rw [hmu] at h3
        have H3 := Lib.hid (And.intro h3 (H2.out.2.trans' k3))
        clear hmu h3 k3
        go_wp2_with (fail)
        refine (xline_off b { x' with short := true } w3 H3.out.1 hok).mono ?_
        rintro e w4 ⟨rfl, rfl⟩
        go_wp2_with (fail)
        go_roundw
        case rel => exact ⟨{ x' with short := true }, n + 1, by go_num, by omega, H3.out.1, HR.out.2.1, HR.out.2.2.1, H3.out.2, .inl HE.out⟩
        case measure => simp [intOf]; omega
end BD
end
section
namespace BD
/-! ### A chunk's line -/
/-- Within a chunk's line: k digits were read, they say n. -/
def InNum (x : Xr) (out : List UInt8) (r : Rd) (k : Nat) (n : Int) : Prop := x.e = 0 ∧ x.short = false ∧ k ≤ 6 ∧ 0 ≤ n ∧ n < 16 ^ k ∧ Seen x out { r with state := 2, left := n, many := k }
/-- Its end was read. -/
def NumDone (x : Xr) (out : List UInt8) (r : Rd) (n : Int) : Prop := x.e = 0 ∧ x.short = false ∧ 0 ≤ n ∧ n ≤ 16777216 ∧ ∃ (p : Nat) (m : Int), x.pos = p + 1 ∧ p < x.s.length ∧ (x.s.getD p 0).toNat = 10 ∧ Seen { x with pos := p } out { r with state := 3, left := n, many := m }
def NumPost (b : Nat) (x : Xr) (out : List UInt8) (r : Rd) (w : World) (e : Ending) (w' : World) : Prop :=
  ∃ n : Int, e = .returned (I n) ∧ Kept [b] w w' ∧ ∃ x', XAt w' b x' ∧ x'.s = x.s ∧ x'.sv = x.sv ∧ 0 ≤ n ∧ n ≤ 16777216 ∧ (Ended x' out ∨ NumDone x' out r n)
theorem pow16 (k : Nat) (h : k ≤ 6) : (16 : Int) ^ k ≤ 16777216 := by
  have : k = 0 ∨ k = 1 ∨ k = 2 ∨ k = 3 ∨ k = 4 ∨ k = 5 ∨ k = 6 := by omega
  rcases this with rfl | rfl | rfl | rfl | rfl | rfl | rfl <;> decide
theorem InNum.le {x : Xr} {out : List UInt8} {r : Rd} {k : Nat} {n : Int} (h : InNum x out r k n) : n ≤ 16777216 := by
  have h1 := pow16 k h.2.2.1
  have h2 := h.2.2.2.2.1
  omega
/-- one digit more -/
theorem InNum.digit {x : Xr} {out : List UInt8} {r : Rd} {k : Nat} {n : Int} (h : InNum x out r k n) (hl : x.pos < x.s.length) (hk : k < 6) (hc : ¬ ((x.s.getD x.pos 0).toNat = 13 ∧ 0 < k)) (hd : 0 ≤ digitF (x.s.getD x.pos 0)) :
    InNum { x with pos := x.pos + 1 } out r (k + 1) (16 * n + digitF (x.s.getD x.pos 0)) := by
  obtain ⟨he, hs, _, h0, h1, hseen⟩ := h
  have hle := (digitF_le (x.s.getD x.pos 0)).2
  refine ⟨he, hs, by omega, by omega, ?_, ?_⟩
  · rw [Int.pow_succ]; omega
  · have h2 := hseen.step hl (in2_digit { r with state := 2, left := n, many := k } _ rfl (by rintro ⟨g1, g2⟩; exact hc ⟨g1, by simpa using g2⟩) hd (by show (k : Int) < 6; omega))
    simpa using h2
theorem InNum.bad {x : Xr} {out : List UInt8} {r : Rd} {k : Nat} {n : Int} (h : InNum x out r k n) (hl : x.pos < x.s.length) (hc : ¬ ((x.s.getD x.pos 0).toNat = 13 ∧ 0 < k)) (hd : digitF (x.s.getD x.pos 0) < 0 ∨ k = 6) : Wrong x.s 180 :=
  h.2.2.2.2.2.wrong hl (in2_bad { r with state := 2, left := n, many := k } _ rfl (by rintro ⟨g1, g2⟩; exact hc ⟨g1, by simpa using g2⟩) (by rcases hd with g | g; exact .inl g; exact .inr (by show (k : Int) = 6; omega))) (by decide)
theorem InNum.cr {x : Xr} {out : List UInt8} {r : Rd} {k : Nat} {n : Int} (h : InNum x out r k n) (hl : x.pos < x.s.length) (hc : (x.s.getD x.pos 0).toNat = 13) (hk : 0 < k) : Seen { x with pos := x.pos + 1 } out { r with state := 3, left := n, many := k } := by
  have h2 := h.2.2.2.2.2.step hl (in2_13 { r with state := 2, left := n, many := k } _ rfl hc (by show (0 : Int) < k; omega))
  simpa using h2
end BD
end
section
namespace BD
set_option maxRecDepth 100000 in
set_option maxHeartbeats 4000000 in
theorem xnumber_any (b : Nat) (x : Xr) (out : List UInt8) (r : Rd) (w : World) (h : XAt w b x) (hp : x.pos ≤ x.s.length) (hl : x.s.length ≤ 1000000) (hi : Ended x out ∨ InNum x out r 0 0) :
    Calls Tryz.prog 74 #[Ptr b] w (NumPost b x out r w) := by
  go_enter Tryz.func74, Tryz.ntmps74
  have HI := Lib.hid (And.intro h hi)
  clear h hi
  go_wp2_with (fail)
  go_loopw [2, 3, 4, 5, 6] (fun _ nv kv _ _ wr => ∃ (x' : Xr) (k : Nat) (n : Int), nv = I n ∧ kv = I k ∧ k ≤ 7 ∧ -1000000000 ≤ n ∧ n ≤ 1000000000 ∧ XAt wr b x' ∧ x'.s = x.s ∧ x'.sv = x.sv ∧ Kept [b] w wr ∧ (Ended x' out ∨ InNum x' out r k n)) (fun _ _ kv _ _ _ => 40 - (intOf kv).toNat)
  case atStart => exact ⟨x, 0, 0, rfl, rfl, by omega, by omega, by omega, HI.out.1, rfl, rfl, Kept.refl _ _, HI.out.2⟩
  case round =>
    obtain ⟨x', k, n, rfl, rfl, hk7, hb1, hb2, hx, hs, hv, hk, hc⟩ := hrel
    have HR := Lib.hid (And.intro hx (And.intro hs (And.intro hv hk)))
    have hl' : x'.s.length ≤ 1000000 := by rw [hs]; exact hl
    rcases hc with hE | hA
    · have ho := hE.not_ok
      have HE := Lib.hid hE
      clear hx hs hv hk hE
      go_wp2_with (fail)
      refine (okX_any b x' wr HR.out.1).mono ?_
      rintro e w' ⟨rfl, rfl⟩
      rw [ho]
      go_wp2_with (fail)
      go_ret
      exact ⟨0, rfl, HR.out.2.2.2, x', HR.out.1, HR.out.2.1, HR.out.2.2.1, by omega, by omega, .inl HE.out⟩
    · have ho : okX x' = true := by simp [okX, hA.1, hA.2.1]
      have hp' : x'.pos ≤ x'.s.length := hA.2.2.2.2.2.1
      have hn0 : 0 ≤ n := hA.2.2.2.1
      have hn1 : n ≤ 16777216 := hA.le
      have hk6 : k ≤ 6 := hA.2.2.1
      have HN := Lib.hid hA
      clear hx hs hv hk hA
      go_wp2_with (fail)
      refine (okX_any b x' wr HR.out.1).mono ?_
      rintro e w' ⟨rfl, rfl⟩
      rw [ho]
      go_wp2_with (fail)
      refine (next_any b x' wr HR.out.1 hp' hl').mono ?_
      rintro e w2 ⟨rfl, h2, k2⟩
      have H2 := Lib.hid (And.intro h2 (HR.out.2.2.2.trans' k2))
      clear h2 k2
      go_wp2_with (fail)
      refine (okX_any b (nextF x') w2 H2.out.1).mono ?_
      rintro e w' ⟨rfl, rfl⟩
      by_cases hlt : x'.pos < x'.s.length
      · obtain ⟨c, hc⟩ : ∃ c, x'.s.getD x'.pos 0 = c := ⟨_, rfl⟩
        have hnx : nextF x' = { x' with pos := x'.pos + 1 } := by unfold nextF; rw [if_pos (by omega), if_pos ho]
        have hnb : nextB x' = c := by unfold nextB; rw [if_pos ho, hc]
        have hoX : okX { x' with pos := x'.pos + 1 } = true := ho
        have HC := Lib.hid hc
        clear hc
        rw [hnx] at H2 ⊢
        rw [hnb, hoX]
        clear hnx hnb
        have hc255 : (c.toNat : Int) ≤ 255 := by have := c.toNat_lt; omega
        by_cases hD : (48 : Int) ≤ c.toNat ∧ (c.toNat : Int) ≤ 57
        · obtain ⟨hd1, hd2⟩ := hD
          have hc13 : ¬ (c.toNat : Int) = 13 := by omega
          have hl1 : ¬ (97 : Int) ≤ c.toNat := by omega
          have hu1 : ¬ (65 : Int) ≤ c.toNat := by omega
          have hdg : digitF c = (c.toNat : Int) - 48 := by unfold digitF; (repeat' split) <;> omega
          by_cases hk : (k : Int) < 6
          · go_wp2_with (fail)
            refine (must_any b { x' with pos := x'.pos + 1 } true 180 w2 H2.out.1).mono ?_
            rintro e w3 ⟨rfl, h3, k3⟩
            have hmu : mustF { x' with pos := x'.pos + 1 } true 180 = { x' with pos := x'.pos + 1 } := by simp [mustF]
            rw [hmu] at h3
            have H3 := Lib.hid (And.intro h3 (H2.out.2.trans' k3))
            have HDG := Lib.hid hdg
            clear hmu h3 k3 hdg
            go_wp2_with (fail)
            go_roundw
            case rel => exact ⟨{ x' with pos := x'.pos + 1 }, k + 1, 16 * n + ((c.toNat : Int) - 48), by go_num, by go_num, by omega, by omega, by omega, H3.out.1, HR.out.2.1, HR.out.2.2.1, H3.out.2, .inr (by have := HN.out.digit hlt (by omega) (by rw [HC.out]; omega) (by rw [HC.out, HDG.out]; omega); rwa [HC.out, HDG.out] at this)⟩
            case measure => simp [intOf]; omega
          · have hkf : decide ((k : Int) < 6) = false := decide_eq_false hk
            have HW : Hid (Wrong x'.s 180) := Lib.hid (HN.out.bad hlt (by rw [HC.out]; omega) (by rw [HC.out]; exact .inr (by omega)))
            clear hdg
            go_wp2_with (fail)
            refine (must_any b { x' with pos := x'.pos + 1 } false 180 w2 H2.out.1).mono ?_
            rintro e w3 ⟨rfl, h3, k3⟩
            have hmu : mustF { x' with pos := x'.pos + 1 } false 180 = { x' with pos := x'.pos + 1, e := 180 } := by simp [mustF, hoX]
            rw [hmu] at h3
            have H3 := Lib.hid (And.intro h3 (H2.out.2.trans' k3))
            clear hmu h3 k3
            go_wp2_with (fail)
            go_roundw
            case rel => exact ⟨{ x' with pos := x'.pos + 1, e := 180 }, k + 1, 16 * n + ((c.toNat : Int) - 48), by go_num, by go_num, by omega, by omega, by omega, H3.out.1, HR.out.2.1, HR.out.2.2.1, H3.out.2, .inl (.inr ⟨by show (180 : Int) ≠ 0; decide, HW.out⟩)⟩
            case measure => simp [intOf]; omega
        by_cases hL : (97 : Int) ≤ c.toNat ∧ (c.toNat : Int) ≤ 102
        · obtain ⟨hd1, hd2⟩ := hL
          clear hD
          have hc13 : ¬ (c.toNat : Int) = 13 := by omega
          have ha1 : (48 : Int) ≤ c.toNat := by omega
          have ha2 : ¬ (c.toNat : Int) ≤ 57 := by omega
          have hu1 : (65 : Int) ≤ c.toNat := by omega
          have hu2 : ¬ (c.toNat : Int) ≤ 70 := by omega
          have hdg : digitF c = (c.toNat : Int) - 97 + 10 := by unfold digitF; (repeat' split) <;> omega
          by_cases hk : (k : Int) < 6
          · go_wp2_with (fail)
            refine (must_any b { x' with pos := x'.pos + 1 } true 180 w2 H2.out.1).mono ?_
            rintro e w3 ⟨rfl, h3, k3⟩
            have hmu : mustF { x' with pos := x'.pos + 1 } true 180 = { x' with pos := x'.pos + 1 } := by simp [mustF]
            rw [hmu] at h3
            have H3 := Lib.hid (And.intro h3 (H2.out.2.trans' k3))
            have HDG := Lib.hid hdg
            clear hmu h3 k3 hdg
            go_wp2_with (fail)
            go_roundw
            case rel => exact ⟨{ x' with pos := x'.pos + 1 }, k + 1, 16 * n + ((c.toNat : Int) - 97 + 10), by go_num, by go_num, by omega, by omega, by omega, H3.out.1, HR.out.2.1, HR.out.2.2.1, H3.out.2, .inr (by have := HN.out.digit hlt (by omega) (by rw [HC.out]; omega) (by rw [HC.out, HDG.out]; omega); rwa [HC.out, HDG.out] at this)⟩
            case measure => simp [intOf]; omega
          · have hkf : decide ((k : Int) < 6) = false := decide_eq_false hk
            have HW : Hid (Wrong x'.s 180) := Lib.hid (HN.out.bad hlt (by rw [HC.out]; omega) (by rw [HC.out]; exact .inr (by omega)))
            clear hdg
            go_wp2_with (fail)
            refine (must_any b { x' with pos := x'.pos + 1 } false 180 w2 H2.out.1).mono ?_
            rintro e w3 ⟨rfl, h3, k3⟩
            have hmu : mustF { x' with pos := x'.pos + 1 } false 180 = { x' with pos := x'.pos + 1, e := 180 } := by simp [mustF, hoX]
            rw [hmu] at h3
            have H3 := Lib.hid (And.intro h3 (H2.out.2.trans' k3))
            clear hmu h3 k3
            go_wp2_with (fail)
            go_roundw
            case rel => exact ⟨{ x' with pos := x'.pos + 1, e := 180 }, k + 1, 16 * n + ((c.toNat : Int) - 97 + 10), by go_num, by go_num, by omega, by omega, by omega, H3.out.1, HR.out.2.1, HR.out.2.2.1, H3.out.2, .inl (.inr ⟨by show (180 : Int) ≠ 0; decide, HW.out⟩)⟩
            case measure => simp [intOf]; omega
        by_cases hU : (65 : Int) ≤ c.toNat ∧ (c.toNat : Int) ≤ 70
        · obtain ⟨hd1, hd2⟩ := hU
          clear hD hL
          have hc13 : ¬ (c.toNat : Int) = 13 := by omega
          have ha1 : (48 : Int) ≤ c.toNat := by omega
          have ha2 : ¬ (c.toNat : Int) ≤ 57 := by omega
          have hu1 : ¬ (97 : Int) ≤ c.toNat := by omega
          have hdg : digitF c = (c.toNat : Int) - 65 + 10 := by unfold digitF; (repeat' split) <;> omega
          by_cases hk : (k : Int) < 6
          · go_wp2_with (fail)
            refine (must_any b { x' with pos := x'.pos + 1 } true 180 w2 H2.out.1).mono ?_
            rintro e w3 ⟨rfl, h3, k3⟩
            have hmu : mustF { x' with pos := x'.pos + 1 } true 180 = { x' with pos := x'.pos + 1 } := by simp [mustF]
            rw [hmu] at h3
            have H3 := Lib.hid (And.intro h3 (H2.out.2.trans' k3))
            have HDG := Lib.hid hdg
            clear hmu h3 k3 hdg
            go_wp2_with (fail)
            go_roundw
            case rel => exact ⟨{ x' with pos := x'.pos + 1 }, k + 1, 16 * n + ((c.toNat : Int) - 65 + 10), by go_num, by go_num, by omega, by omega, by omega, H3.out.1, HR.out.2.1, HR.out.2.2.1, H3.out.2, .inr (by have := HN.out.digit hlt (by omega) (by rw [HC.out]; omega) (by rw [HC.out, HDG.out]; omega); rwa [HC.out, HDG.out] at this)⟩
            case measure => simp [intOf]; omega
          · have hkf : decide ((k : Int) < 6) = false := decide_eq_false hk
            have HW : Hid (Wrong x'.s 180) := Lib.hid (HN.out.bad hlt (by rw [HC.out]; omega) (by rw [HC.out]; exact .inr (by omega)))
            clear hdg
            go_wp2_with (fail)
            refine (must_any b { x' with pos := x'.pos + 1 } false 180 w2 H2.out.1).mono ?_
            rintro e w3 ⟨rfl, h3, k3⟩
            have hmu : mustF { x' with pos := x'.pos + 1 } false 180 = { x' with pos := x'.pos + 1, e := 180 } := by simp [mustF, hoX]
            rw [hmu] at h3
            have H3 := Lib.hid (And.intro h3 (H2.out.2.trans' k3))
            clear hmu h3 k3
            go_wp2_with (fail)
            go_roundw
            case rel => exact ⟨{ x' with pos := x'.pos + 1, e := 180 }, k + 1, 16 * n + ((c.toNat : Int) - 65 + 10), by go_num, by go_num, by omega, by omega, by omega, H3.out.1, HR.out.2.1, HR.out.2.2.1, H3.out.2, .inl (.inr ⟨by show (180 : Int) ≠ 0; decide, HW.out⟩)⟩
            case measure => simp [intOf]; omega
        by_cases hc13 : (c.toNat : Int) = 13
        · by_cases hk0 : (k : Int) > 0
          · skip
            have hcb : ((c.toNat : Int) == 13) = true := by simpa using hc13
            have HT := Lib.hid (HN.out.cr hlt (by rw [HC.out]; omega) (by omega))
            go_wp2_with (fail)
            by_cases hl2 : x'.pos + 1 < x'.s.length
            · obtain ⟨d, hd⟩ : ∃ d, x'.s.getD (x'.pos + 1) 0 = d := ⟨_, rfl⟩
              refine (next_any b { x' with pos := x'.pos + 1 } w2 H2.out.1 (by show x'.pos + 1 ≤ x'.s.length; omega) hl').mono ?_
              rintro e w3 ⟨rfl, h3, k3⟩
              have hnx2 : nextF { x' with pos := x'.pos + 1 } = { x' with pos := x'.pos + 2 } := by unfold nextF; rw [if_pos (by show ((x'.pos + 1 : Nat) : Int) < x'.s.length; omega), if_pos hoX]
              have hnb2 : nextB { x' with pos := x'.pos + 1 } = d := by unfold nextB; rw [if_pos hoX]; exact hd
              have ho2 : okX { x' with pos := x'.pos + 2 } = true := ho
              rw [hnx2] at h3
              rw [hnb2]
              have H3 := Lib.hid (And.intro h3 (H2.out.2.trans' k3))
              have HD := Lib.hid hd
              clear h3 k3 hnx2 hnb2 hd
              by_cases hd10 : (d.toNat : Int) = 10
              · have hdb : ((d.toNat : Int) == 10) = true := by simpa using hd10
                have HF : Hid (NumDone { x' with pos := x'.pos + 2 } out r n) := Lib.hid ⟨HN.out.1, HN.out.2.1, hn0, hn1, x'.pos + 1, k, rfl, hl2, by show (x'.s.getD (x'.pos + 1) 0).toNat = 10; rw [HD.out]; omega, HT.out⟩
                go_wp2_with (fail)
                refine (must_any b { x' with pos := x'.pos + 2 } true 180 w3 H3.out.1).mono ?_
                rintro e w4 ⟨rfl, h4, k4⟩
                have hmu : mustF { x' with pos := x'.pos + 2 } true 180 = { x' with pos := x'.pos + 2 } := by simp [mustF]
                rw [hmu] at h4
                have H4 := Lib.hid (And.intro h4 (H3.out.2.trans' k4))
                clear hmu h4 k4
                go_wp2_with (fail)
                go_ret
                exact ⟨n, rfl, H4.out.2, { x' with pos := x'.pos + 2 }, H4.out.1, HR.out.2.1, HR.out.2.2.1, by omega, by omega, .inr HF.out⟩
              · have hdb : ((d.toNat : Int) == 10) = false := by simpa using hd10
                have HF : Hid (Wrong x'.s 180) := Lib.hid (HT.out.wrong (x := { x' with pos := x'.pos + 1 }) hl2 (by show feed _ (x'.s.getD (x'.pos + 1) 0) = _; rw [HD.out]; exact in3_else _ d rfl (by omega)) (by decide))
                go_wp2_with (fail)
                refine (must_any b { x' with pos := x'.pos + 2 } false 180 w3 H3.out.1).mono ?_
                rintro e w4 ⟨rfl, h4, k4⟩
                have hmu : mustF { x' with pos := x'.pos + 2 } false 180 = { x' with pos := x'.pos + 2, e := 180 } := by simp [mustF, ho2]
                rw [hmu] at h4
                have H4 := Lib.hid (And.intro h4 (H3.out.2.trans' k4))
                clear hmu h4 k4
                go_wp2_with (fail)
                go_ret
                exact ⟨n, rfl, H4.out.2, { x' with pos := x'.pos + 2, e := 180 }, H4.out.1, HR.out.2.1, HR.out.2.2.1, by omega, by omega, .inl (.inr ⟨by show (180 : Int) ≠ 0; decide, HF.out⟩)⟩
            · refine (next_any b { x' with pos := x'.pos + 1 } w2 H2.out.1 (by show x'.pos + 1 ≤ x'.s.length; omega) hl').mono ?_
              rintro e w3 ⟨rfl, h3, k3⟩
              have hnx2 : nextF { x' with pos := x'.pos + 1 } = { x' with pos := x'.pos + 1, short := true } := by unfold nextF; rw [if_neg (by show ¬ ((x'.pos + 1 : Nat) : Int) < x'.s.length; omega)]
              have hof : okX { x' with pos := x'.pos + 1, short := true } = false := by simp [okX]
              rw [hnx2] at h3
              obtain ⟨d, hd⟩ : ∃ d, nextB { x' with pos := x'.pos + 1 } = d := ⟨_, rfl⟩
              rw [hd]
              have H3 := Lib.hid (And.intro h3 (H2.out.2.trans' k3))
              clear h3 k3 hnx2 hd
              have HF : Hid (Ended { x' with pos := x'.pos + 1, short := true } out) := Lib.hid (.inl ⟨rfl, HN.out.1, HT.out.short (x := { x' with pos := x'.pos + 1 }) hl2 (by simp)⟩)
              obtain ⟨q, hq⟩ : ∃ q, ((d.toNat : Int) == 10) = q := ⟨_, rfl⟩
              go_wp2_with (fail)
              refine (must_any b { x' with pos := x'.pos + 1, short := true } q 180 w3 H3.out.1).mono ?_
              rintro e w4 ⟨rfl, h4, k4⟩
              have hmu : mustF { x' with pos := x'.pos + 1, short := true } q 180 = { x' with pos := x'.pos + 1, short := true } := by unfold mustF; rw [if_neg (by simp [hof])]
              rw [hmu] at h4
              have H4 := Lib.hid (And.intro h4 (H3.out.2.trans' k4))
              clear hmu h4 k4
              go_wp2_with (fail)
              go_ret
              exact ⟨n, rfl, H4.out.2, { x' with pos := x'.pos + 1, short := true }, H4.out.1, HR.out.2.1, HR.out.2.2.1, by omega, by omega, .inl HF.out⟩
          · skip
            have hk00 : k = 0 := by omega
            have g1 : ¬ (97 : Int) ≤ c.toNat := by omega
            have g3 : ¬ (48 : Int) ≤ c.toNat := by omega
            have g5 : ¬ (65 : Int) ≤ c.toNat := by omega
            have hdg : digitF c = -1 := by unfold digitF; (repeat' split) <;> omega
            have HW : Hid (Wrong x'.s 180) := Lib.hid (HN.out.bad hlt (by rw [HC.out]; omega) (by rw [HC.out]; exact .inl (by omega)))
            have hcb : ((c.toNat : Int) == 13) = true := by simpa using hc13
            clear hdg
            go_wp2_with (fail)
            refine (must_any b { x' with pos := x'.pos + 1 } false 180 w2 H2.out.1).mono ?_
            rintro e w3 ⟨rfl, h3, k3⟩
            have hmu : mustF { x' with pos := x'.pos + 1 } false 180 = { x' with pos := x'.pos + 1, e := 180 } := by simp [mustF, hoX]
            rw [hmu] at h3
            have H3 := Lib.hid (And.intro h3 (H2.out.2.trans' k3))
            clear hmu h3 k3
            go_wp2_with (fail)
            go_roundw
            case rel => exact ⟨{ x' with pos := x'.pos + 1, e := 180 }, k + 1, 16 * n + (-1), by go_num, by go_num, by omega, by omega, by omega, H3.out.1, HR.out.2.1, HR.out.2.2.1, H3.out.2, .inl (.inr ⟨by show (180 : Int) ≠ 0; decide, HW.out⟩)⟩
            case measure => simp [intOf]; omega
        by_cases h102 : (102 : Int) < c.toNat
        · have g1 : (97 : Int) ≤ c.toNat := by omega
          have g2 : ¬ (c.toNat : Int) ≤ 102 := by omega
          have g3 : (48 : Int) ≤ c.toNat := by omega
          have g4 : ¬ (c.toNat : Int) ≤ 57 := by omega
          have g5 : (65 : Int) ≤ c.toNat := by omega
          have g6 : ¬ (c.toNat : Int) ≤ 70 := by omega
          have hdg : digitF c = -1 := by unfold digitF; (repeat' split) <;> omega
          have HW : Hid (Wrong x'.s 180) := Lib.hid (HN.out.bad hlt (by rw [HC.out]; omega) (by rw [HC.out]; exact .inl (by omega)))
          clear hdg
          go_wp2_with (fail)
          refine (must_any b { x' with pos := x'.pos + 1 } false 180 w2 H2.out.1).mono ?_
          rintro e w3 ⟨rfl, h3, k3⟩
          have hmu : mustF { x' with pos := x'.pos + 1 } false 180 = { x' with pos := x'.pos + 1, e := 180 } := by simp [mustF, hoX]
          rw [hmu] at h3
          have H3 := Lib.hid (And.intro h3 (H2.out.2.trans' k3))
          clear hmu h3 k3
          go_wp2_with (fail)
          go_roundw
          case rel => exact ⟨{ x' with pos := x'.pos + 1, e := 180 }, k + 1, 16 * n + (-1), by go_num, by go_num, by omega, by omega, by omega, H3.out.1, HR.out.2.1, HR.out.2.2.1, H3.out.2, .inl (.inr ⟨by show (180 : Int) ≠ 0; decide, HW.out⟩)⟩
          case measure => simp [intOf]; omega
        by_cases h96 : (70 : Int) < c.toNat
        · have g1 : ¬ (97 : Int) ≤ c.toNat := by omega
          have g3 : (48 : Int) ≤ c.toNat := by omega
          have g4 : ¬ (c.toNat : Int) ≤ 57 := by omega
          have g5 : (65 : Int) ≤ c.toNat := by omega
          have g6 : ¬ (c.toNat : Int) ≤ 70 := by omega
          have hdg : digitF c = -1 := by unfold digitF; (repeat' split) <;> omega
          have HW : Hid (Wrong x'.s 180) := Lib.hid (HN.out.bad hlt (by rw [HC.out]; omega) (by rw [HC.out]; exact .inl (by omega)))
          clear hdg
          go_wp2_with (fail)
          refine (must_any b { x' with pos := x'.pos + 1 } false 180 w2 H2.out.1).mono ?_
          rintro e w3 ⟨rfl, h3, k3⟩
          have hmu : mustF { x' with pos := x'.pos + 1 } false 180 = { x' with pos := x'.pos + 1, e := 180 } := by simp [mustF, hoX]
          rw [hmu] at h3
          have H3 := Lib.hid (And.intro h3 (H2.out.2.trans' k3))
          clear hmu h3 k3
          go_wp2_with (fail)
          go_roundw
          case rel => exact ⟨{ x' with pos := x'.pos + 1, e := 180 }, k + 1, 16 * n + (-1), by go_num, by go_num, by omega, by omega, by omega, H3.out.1, HR.out.2.1, HR.out.2.2.1, H3.out.2, .inl (.inr ⟨by show (180 : Int) ≠ 0; decide, HW.out⟩)⟩
          case measure => simp [intOf]; omega
        by_cases h64 : (57 : Int) < c.toNat
        · have g1 : ¬ (97 : Int) ≤ c.toNat := by omega
          have g3 : (48 : Int) ≤ c.toNat := by omega
          have g4 : ¬ (c.toNat : Int) ≤ 57 := by omega
          have g5 : ¬ (65 : Int) ≤ c.toNat := by omega
          have hdg : digitF c = -1 := by unfold digitF; (repeat' split) <;> omega
          have HW : Hid (Wrong x'.s 180) := Lib.hid (HN.out.bad hlt (by rw [HC.out]; omega) (by rw [HC.out]; exact .inl (by omega)))
          clear hdg
          go_wp2_with (fail)
          refine (must_any b { x' with pos := x'.pos + 1 } false 180 w2 H2.out.1).mono ?_
          rintro e w3 ⟨rfl, h3, k3⟩
          have hmu : mustF { x' with pos := x'.pos + 1 } false 180 = { x' with pos := x'.pos + 1, e := 180 } := by simp [mustF, hoX]
          rw [hmu] at h3
          have H3 := Lib.hid (And.intro h3 (H2.out.2.trans' k3))
          clear hmu h3 k3
          go_wp2_with (fail)
          go_roundw
          case rel => exact ⟨{ x' with pos := x'.pos + 1, e := 180 }, k + 1, 16 * n + (-1), by go_num, by go_num, by omega, by omega, by omega, H3.out.1, HR.out.2.1, HR.out.2.2.1, H3.out.2, .inl (.inr ⟨by show (180 : Int) ≠ 0; decide, HW.out⟩)⟩
          case measure => simp [intOf]; omega
        have g1 : ¬ (97 : Int) ≤ c.toNat := by omega
        have g3 : ¬ (48 : Int) ≤ c.toNat := by omega
        have g5 : ¬ (65 : Int) ≤ c.toNat := by omega
        have hdg : digitF c = -1 := by unfold digitF; (repeat' split) <;> omega
        have HW : Hid (Wrong x'.s 180) := Lib.hid (HN.out.bad hlt (by rw [HC.out]; omega) (by rw [HC.out]; exact .inl (by omega)))
        clear hdg
        go_wp2_with (fail)
        refine (must_any b { x' with pos := x'.pos + 1 } false 180 w2 H2.out.1).mono ?_
        rintro e w3 ⟨rfl, h3, k3⟩
        have hmu : mustF { x' with pos := x'.pos + 1 } false 180 = { x' with pos := x'.pos + 1, e := 180 } := by simp [mustF, hoX]
        rw [hmu] at h3
        have H3 := Lib.hid (And.intro h3 (H2.out.2.trans' k3))
        clear hmu h3 k3
        go_wp2_with (fail)
        go_roundw
        case rel => exact ⟨{ x' with pos := x'.pos + 1, e := 180 }, k + 1, 16 * n + (-1), by go_num, by go_num, by omega, by omega, by omega, H3.out.1, HR.out.2.1, HR.out.2.2.1, H3.out.2, .inl (.inr ⟨by show (180 : Int) ≠ 0; decide, HW.out⟩)⟩
        case measure => simp [intOf]; omega
      · have hnx : nextF x' = { x' with short := true } := by unfold nextF; rw [if_neg (by omega)]
        have hok : okX { x' with short := true } = false := by simp [okX]
        rw [hnx] at H2 ⊢
        rw [hok]
        clear hnx
        have HE : Hid (Ended { x' with short := true } out) := Lib.hid (.inl ⟨rfl, HN.out.1, HN.out.2.2.2.2.2.short hlt (by simp)⟩)
        go_wp2_with (fail)
        go_ret
        exact ⟨0, rfl, H2.out.2, { x' with short := true }, H2.out.1, HR.out.2.1, HR.out.2.2.1, by omega, by omega, .inl HE.out⟩
end BD
end
end Go.Proofs.YtgdncdhalnijcaaGreatDoor
