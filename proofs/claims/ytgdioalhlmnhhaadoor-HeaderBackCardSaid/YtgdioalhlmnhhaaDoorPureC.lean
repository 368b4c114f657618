/- Walks and lemmas on the program of this seat, used by its statements; each theorem bears its own conditions. -/
import Derived.Test.YtgdioalhlmnhhaaDoorPureB
namespace Go.Proofs.YtgdioalhlmnhhaaDoor
open Go.RowKit
set_option linter.unusedVariables false
set_option linter.unusedSimpArgs false
namespace WX
open Go.Lib
theorem say_t1 {t : List UInt8} (h : t ≠ []) (hc : t.getD 0 0 ≠ 92) : say t = (say (t.drop 1)).map (t.getD 0 0 :: ·) := by
  match t, h with
  | c :: s, _ => exact say_plain c s hc
theorem pre2 {t : List UInt8} {a b : UInt8} (h : hasPrefix t [a, b] = true) : ∃ s, t = a :: b :: s := by
  match t, h with
  | c :: d :: s, h =>
    simp [hasPrefix, List.isPrefixOf] at h
    exact ⟨s, by rw [h.1, h.2]⟩
  | [c], h => simp [hasPrefix, List.isPrefixOf] at h
  | [], h => simp [hasPrefix, List.isPrefixOf] at h
theorem say_t2 {t : List UInt8} (h : hasPrefix t [92, 92] = true) : say t = (say (t.drop 2)).map (92 :: ·) := by
  obtain ⟨s, rfl⟩ := pre2 h; exact say_92 s
theorem say_t3 {t : List UInt8} (h : hasPrefix t [92, 110] = true) : say t = (say (t.drop 2)).map (10 :: ·) := by
  obtain ⟨s, rfl⟩ := pre2 h; exact say_n s
theorem say_t4 {t : List UInt8} (h0 : t.getD 0 0 = 92) (hl : 4 ≤ t.length) (h1 : t.getD 1 0 = 120) (ha : 0 ≤ digN (t.getD 2 0)) (hb : 0 ≤ digN (t.getD 3 0)) :
    say t = (say (t.drop 4)).map (UInt8.ofNat (16 * (digN (t.getD 2 0)).toNat + (digN (t.getD 3 0)).toNat) :: ·) := by
  match t, hl with
  | a :: b :: c :: d :: s, _ =>
    simp only [List.getD_cons_zero, List.getD_cons_succ] at *
    subst h0; subst h1
    rw [say_x, if_pos ⟨ha, hb⟩]; rfl
theorem say_t5 {t : List UInt8} (h0 : t.getD 0 0 = 92) (hn : t ≠ []) (h2 : hasPrefix t [92, 92] = false) (h3 : hasPrefix t [92, 110] = false)
    (h : t.length < 4 ∨ t.getD 1 0 ≠ 120 ∨ digN (t.getD 2 0) < 0 ∨ digN (t.getD 3 0) < 0) : say t = none := by
  match t, hn with
  | a :: s, _ =>
    simp only [List.getD_cons_zero] at h0
    subst h0
    by_cases hx : ∃ b c u, s = 120 :: b :: c :: u
    · obtain ⟨b, c, u, rfl⟩ := hx
      simp only [List.getD_cons_zero, List.getD_cons_succ, List.length_cons] at h
      rw [say_x, if_neg]
      rcases h with h | h | h | h
      · omega
      · exact absurd rfl h
      · omega
      · omega
    · refine say_none s (fun t e => ?_) (fun t e => ?_) (fun a b t e => hx ⟨a, b, t, e⟩)
      · subst e; simp [hasPrefix, List.isPrefixOf] at h2
      · subst e; simp [hasPrefix, List.isPrefixOf] at h3
def unescF (l : List UInt8) : List UInt8 × Int := match unesc l with | some t => (t, 0) | none => ([], 11)
theorem unescF_none {l : List UInt8} (h : say l = none) : unescF l = ([], 11) := by unfold unescF unesc; rw [h]
theorem unescF_yes {l t : List UInt8} (h : say l = some t) (he : escL t = l) : unescF l = (t, 0) := by unfold unescF unesc; rw [h]; simp [he]
theorem unescF_no {l t : List UInt8} (h : say l = some t) (he : escL t ≠ l) : unescF l = ([], 11) := by unfold unescF unesc; rw [h]; simp [he]
end WX
end Go.Proofs.YtgdioalhlmnhhaaDoor
