/- Walks and lemmas on the program of this seat, used by its statements; each theorem bears its own conditions. -/
import Derived.Test.YtgdncdhalnijcaaDoorRdL
import Derived.Test.YtgdncdhalnijcaaDoorRdI
namespace Go.Proofs.YtgdncdhalnijcaaDoor
open Go.RowKit
set_option linter.unusedVariables false
set_option linter.unusedSimpArgs false
namespace BD
/-! ### 'New' -/
def rdNil : Rd := ⟨0, 0, 0, 0, 0, 0, [], 0⟩
def teName : List UInt8 := [116, 114, 97, 110, 115, 102, 101, 114, 45, 101, 110, 99, 111, 100, 105, 110, 103]
def clName : List UInt8 := [99, 111, 110, 116, 101, 110, 116, 45, 108, 101, 110, 103, 116, 104]
def newF (st : Int) (names values : List (List UInt8)) : Option Rd × Int :=
  if st < 200 ∨ st = 204 ∨ st = 304 then (some { rdNil with state := 11 }, 0)
  else if 0 < (getF names values teName).2 then
    (if 1 < (getF names values teName).2 ∨ 0 < (getF names values clName).2 ∨ isChunked (getF names values teName).1 = false then (none, 180) else (some { rdNil with state := 2, size := -1 }, 0))
  else if 0 < (getF names values clName).2 then
    (if 1 < (getF names values clName).2 ∨ lengthF (getF names values clName).1 < 0 then (none, 180)
     else if 1048576 < lengthF (getF names values clName).1 then (none, 181)
     else (some { rdNil with state := if lengthF (getF names values clName).1 = 0 then 11 else 0, size := lengthF (getF names values clName).1, left := lengthF (getF names values clName).1 }, 0))
  else (some { rdNil with state := 1, size := -1 }, 0)
def NewPost (w : World) (res : Option Rd × Int) (e : Ending) (w' : World) : Prop :=
  (match res.1 with | some r => ∃ b, w.heap.size ≤ b ∧ e = .returned (.tuple #[Ptr b, I res.2]) ∧ RdAt w' b r | none => e = .returned (.tuple #[.pointer none, I res.2])) ∧ Kept [] w w'
theorem NewPost.yes {w w' : World} {res : Option Rd × Int} {r : Rd} {b : Nat} {k : Int} (hr : res = (some r, k)) (hb : w.heap.size ≤ b) (h : RdAt w' b r) (hk : Kept [] w w') : NewPost w res (.returned (.tuple #[Ptr b, I k])) w' := by
  subst hr; exact ⟨⟨b, hb, rfl, h⟩, hk⟩
theorem NewPost.no {w w' : World} {res : Option Rd × Int} {k : Int} (hr : res = (none, k)) (hk : Kept [] w w') : NewPost w res (.returned (.tuple #[.pointer none, I k])) w' := by
  subst hr; exact ⟨rfl, hk⟩
theorem isChunked_len (s : List UInt8) (h : isChunked s = true) : s.length = 7 := by
  have : s.map lowerB = chunked := by simpa [isChunked] using h
  have := congrArg List.length this
  simpa [chunked] using this
theorem heap_new (w : World) (o : Obj) : (w.alloc o).heap[w.heap.size]? = some o := by
  show (w.heap.push o)[w.heap.size]? = _
  simp
theorem rdAt_new (w : World) (r : Rd) : RdAt (w.alloc r.obj) w.heap.size r := by
  unfold RdAt World.alloc; simp
set_option maxRecDepth 100000 in
set_option maxHeartbeats 1000000 in
theorem new_any (st : Int) (nv vv : Value) (names values : List (List UInt8)) (w : World) (hn : StrsAt w nv names) (hv : StrsAt w vv values) (hT : Tabs w) :
    Calls Tryd.prog 5 #[.agg #[I st, nv, vv]] w (NewPost w (newF st names values)) := by
  obtain ⟨te, nte, hte⟩ : ∃ te nte, getF names values teName = (te, nte) := ⟨_, _, rfl⟩
  obtain ⟨cl, ncl, hcl⟩ : ∃ cl ncl, getF names values clName = (cl, ncl) := ⟨_, _, rfl⟩
  have hle := getF_le names values teName
  have hlc := getF_le names values clName
  have hnl : names.length ≤ 9223372036854775807 := by obtain ⟨_, _, _, h, _⟩ := hn; exact h
  rw [hte] at hle
  rw [hcl] at hlc
  simp only at hle hlc
  have HN : Hid (newF st names values = if st < 200 ∨ st = 204 ∨ st = 304 then (some { rdNil with state := 11 }, 0)
      else if 0 < nte then (if 1 < nte ∨ 0 < ncl ∨ isChunked te = false then (none, 180) else (some { rdNil with state := 2, size := -1 }, 0))
      else if 0 < ncl then (if 1 < ncl ∨ lengthF cl < 0 then (none, 180) else if 1048576 < lengthF cl then (none, 181)
        else (some { rdNil with state := if lengthF cl = 0 then 11 else 0, size := lengthF cl, left := lengthF cl }, 0))
      else (some { rdNil with state := 1, size := -1 }, 0)) := by
    unfold Hid newF; rw [hte, hcl]
  have HTE := Lib.hid hte
  have HCL := Lib.hid hcl
  have hA : Kept [] w (w.alloc (.cells #[I st, nv, vv] 24)) := (Kept.refl _ _).alloc _
  have HA := Lib.hid hA
  have HH := Lib.hid (And.intro hn (And.intro hv hT))
  clear hte hcl hA hn hv hT
  go_enter Tryd.func5, Tryd.ntmps5
  go_wp2_with (fail)
  have g1 := get_any st nv vv names values teName (w.alloc (.cells #[I st, nv, vv] 24)) (HH.out.1.kept HA.out) (HH.out.2.1.kept HA.out)
  rw [HTE.out] at g1
  have G1 := Lib.hid g1
  clear g1
  refine G1.out.mono ?_
  rintro e w1 ⟨rfl, k1⟩
  have hb1 : w1.heap[w.heap.size]? = some (.cells #[I st, nv, vv] 24) := k1.at (heap_new _ _) (by simp)
  have c10 : w1.cell? ⟨w.heap.size, 0, none⟩ = some (I st) := by rw [cell_at hb1]; rfl
  have c11 : w1.cell? ⟨w.heap.size, 1, none⟩ = some nv := by rw [cell_at hb1]; rfl
  have c12 : w1.cell? ⟨w.heap.size, 2, none⟩ = some vv := by rw [cell_at hb1]; rfl
  have K1 := HA.out.trans' k1
  have HB1 := Lib.hid hb1
  clear hb1 k1
  go_wp2_with (fail)
  have g2 := get_any st nv vv names values clName w1 (HH.out.1.kept K1) (HH.out.2.1.kept K1)
  rw [HCL.out] at g2
  have G2 := Lib.hid g2
  clear g2
  refine G2.out.mono ?_
  rintro e w2 ⟨rfl, k2⟩
  have hb2 : w2.heap[w.heap.size]? = some (.cells #[I st, nv, vv] 24) := k2.at HB1.out (by simp)
  have c20 : w2.cell? ⟨w.heap.size, 0, none⟩ = some (I st) := by rw [cell_at hb2]; rfl
  have K2 := K1.trans' k2
  have T2 := HH.out.2.2.kept K2
  have Z2 : w.heap.size ≤ w2.heap.size := K2.size
  clear hb2 k2 c10 c11 c12 HB1
  by_cases hst : st < 200 ∨ st = 204 ∨ st = 304
  · have hr : Hid (newF st names values = (some { rdNil with state := 11 }, 0)) := by unfold Hid; rw [HN.out, if_pos hst]
    have hcs : st < 200 ∨ 200 ≤ st ∧ (st == 204) = true ∨ 200 ≤ st ∧ (st == 204) = false ∧ (st == 304) = true := by
      rcases hst with h | h | h
      · exact .inl h
      · subst h; exact .inr (.inl ⟨by decide, rfl⟩)
      · subst h; exact .inr (.inr ⟨by decide, rfl, rfl⟩)
    clear hst HN
    rcases hcs with h1 | ⟨h1, h2⟩ | ⟨h1, h2, h3⟩
    all_goals
      go_wp2_with (fail)
      go_ret2
      exact NewPost.yes hr.out Z2 (rdAt_new _ { rdNil with state := 11 }) (K2.alloc _)
  have h200 : 200 ≤ st := by omega
  have h204 : (st == 204) = false := by simp; omega
  have h304 : (st == 304) = false := by simp; omega
  have HN2 := HN.out
  rw [if_neg hst] at HN2
  have HN3 := Lib.hid HN2
  clear HN HN2 hst
  by_cases hte : 0 < nte
  · have hte' : (0 : Int) < nte := by omega
    have HN2 := HN3.out
    rw [if_pos hte] at HN2
    have HN4 := Lib.hid HN2
    clear HN2 HN3 hte
    by_cases h1 : 1 < nte
    · have h1' : (1 : Int) < nte := by omega
      have hr : Hid (newF st names values = (none, 180)) := by unfold Hid; rw [HN4.out, if_pos (.inl h1)]
      go_wp2_with (fail)
      go_ret2
      exact NewPost.no hr.out K2
    have h1' : ¬ (1 : Int) < nte := by omega
    by_cases h2 : 0 < ncl
    · have h2' : (0 : Int) < ncl := by omega
      have hr : Hid (newF st names values = (none, 180)) := by unfold Hid; rw [HN4.out, if_pos (.inr (.inl h2))]
      go_wp2_with (fail)
      go_ret2
      exact NewPost.no hr.out K2
    have h2' : ¬ (0 : Int) < ncl := by omega
    have HL1 := Lib.hid h1
    have HL2 := Lib.hid h2
    clear h1 h2
    go_wp2_with (fail)
    refine (fold_any te w2 T2).mono ?_
    rintro e w3 ⟨bv, rfl, hbv, k3⟩
    have K3 := K2.trans' k3
    have Z3 : w.heap.size ≤ w3.heap.size := K3.size
    have HBV := Lib.hid hbv
    clear hbv k3
    have HN5 : Hid (newF st names values = if isChunked te = false then (none, 180) else (some { rdNil with state := 2, size := -1 }, 0)) := by
      unfold Hid; rw [HN4.out]
      have q1 := HL1.out
      have q2 := HL2.out
      simp only [q1, q2, false_or]
    cases bv with
    | false =>
      have hr : Hid (newF st names values = (none, 180)) := by
        unfold Hid; rw [HN5.out, if_pos]
        cases hch : isChunked te with
        | false => rfl
        | true => have := HBV.out (isChunked_len te hch); rw [hch] at this; cases this
      go_wp2_with (fail)
      go_ret2
      exact NewPost.no hr.out K3
    | true =>
      by_cases h7 : te.length = 7
      · have hb7 : ((te.length : Int) != 7) = false := by simp; omega
        have hr : Hid (newF st names values = (some { rdNil with state := 2, size := -1 }, 0)) := by
          unfold Hid; rw [HN5.out, if_neg]; rw [← HBV.out h7]; simp
        clear h7
        go_wp2_with (fail)
        go_ret2
        exact NewPost.yes hr.out Z3 (rdAt_new _ { rdNil with state := 2, size := -1 }) (K3.alloc _)
      · have hb7 : ((te.length : Int) != 7) = true := by simp; omega
        have hr : Hid (newF st names values = (none, 180)) := by
          unfold Hid; rw [HN5.out, if_pos]
          cases hch : isChunked te with
          | false => rfl
          | true => exact absurd (isChunked_len te hch) h7
        clear h7
        go_wp2_with (fail)
        go_ret2
        exact NewPost.no hr.out K3
  have hte' : ¬ (0 : Int) < nte := by omega
  have HN2 := HN3.out
  rw [if_neg hte] at HN2
  have HN4 := Lib.hid HN2
  clear HN2 HN3 hte
  by_cases h2 : 0 < ncl
  · have h2' : (0 : Int) < ncl := by omega
    have HN2 := HN4.out
    rw [if_pos h2] at HN2
    have HN5 := Lib.hid HN2
    clear HN2 HN4 h2
    go_wp2_with (fail)
    refine (length_any cl w2).mono ?_
    rintro e w3 ⟨rfl, rfl⟩
    generalize lengthF cl = n at *
    by_cases h1 : 1 < ncl
    · have h1' : (1 : Int) < ncl := by omega
      have hr : Hid (newF st names values = (none, 180)) := by unfold Hid; rw [HN5.out, if_pos (.inl h1)]
      go_wp2_with (fail)
      go_ret2
      exact NewPost.no hr.out K2
    have h1' : ¬ (1 : Int) < ncl := by omega
    by_cases h3 : n < 0
    · have hr : Hid (newF st names values = (none, 180)) := by unfold Hid; rw [HN5.out, if_pos (.inr h3)]
      go_wp2_with (fail)
      go_ret2
      exact NewPost.no hr.out K2
    by_cases h4 : 1048576 < n
    · have hr : Hid (newF st names values = (none, 181)) := by unfold Hid; rw [HN5.out, if_neg (by omega), if_pos h4]
      go_wp2_with (fail)
      go_ret2
      exact NewPost.no hr.out K2
    have hr : Hid (newF st names values = (some { rdNil with state := if n = 0 then 11 else 0, size := n, left := n }, 0)) := by unfold Hid; rw [HN5.out, if_neg (by omega), if_neg h4]
    clear HN5
    by_cases h5 : n = 0
    · have hb5 : (n == 0) = true := by simp [h5]
      rw [if_pos h5] at hr
      have H5 := Lib.hid h5
      clear h5
      go_wp2_with (fail)
      go_ret2
      exact NewPost.yes hr.out Z2 (rdAt_new _ { rdNil with state := 11, size := n, left := n }) (K2.alloc _)
    · have hb5 : (n == 0) = false := by simpa using h5
      rw [if_neg h5] at hr
      have H5 := Lib.hid h5
      clear h5
      go_wp2_with (fail)
      go_ret2
      exact NewPost.yes hr.out Z2 (rdAt_new _ { rdNil with state := 0, size := n, left := n }) (K2.alloc _)
  have h2' : ¬ (0 : Int) < ncl := by omega
  have hr : Hid (newF st names values = (some { rdNil with state := 1, size := -1 }, 0)) := by unfold Hid; rw [HN4.out, if_neg h2]
  clear HN4 h2
  go_wp2_with (fail)
  go_ret2
  exact NewPost.yes hr.out Z2 (rdAt_new _ { rdNil with state := 1, size := -1 }) (K2.alloc _)
end BD
end Go.Proofs.YtgdncdhalnijcaaDoor
