/- Walks and lemmas on the program of this seat, used by its statements; each theorem bears its own conditions. -/
import Derived.Test.YtgdioalhlmnhhaaDoorTD
import Derived.Lib.IndexBytes
import Derived.Handy
namespace Go.Proofs.YtgdioalhlmnhhaaDoor
open Go.RowKit
set_option linter.unusedVariables false
set_option linter.unusedSimpArgs false
/-! ### The reader -/
abbrev objR (r : TX.Rd) : Obj := .cells #[S r.hd, S r.nm, I r.sz, I r.lf, I r.fl, I r.en, I r.mn, I r.e] 85
def RdAt (w : World) (b : Nat) (r : TX.Rd) : Prop := w.heap[b]? = some (objR r)
theorem RdAt.cells {w : World} {b : Nat} {r : TX.Rd} (h : RdAt w b r) :
    w.cell? ⟨b, 0, none⟩ = some (S r.hd) ∧ w.cell? ⟨b, 1, none⟩ = some (S r.nm) ∧ w.cell? ⟨b, 2, none⟩ = some (I r.sz) ∧ w.cell? ⟨b, 3, none⟩ = some (I r.lf) ∧
    w.cell? ⟨b, 4, none⟩ = some (I r.fl) ∧ w.cell? ⟨b, 5, none⟩ = some (I r.en) ∧ w.cell? ⟨b, 6, none⟩ = some (I r.mn) ∧ w.cell? ⟨b, 7, none⟩ = some (I r.e) :=
  ⟨cell_at h 0, cell_at h 1, cell_at h 2, cell_at h 3, cell_at h 4, cell_at h 5, cell_at h 6, cell_at h 7⟩
theorem RdAt.free {w : World} {b : Nat} {r : TX.Rd} (h : RdAt w b r) :
    w.frozen? ⟨b, 0, none⟩ = false ∧ w.frozen? ⟨b, 1, none⟩ = false ∧ w.frozen? ⟨b, 2, none⟩ = false ∧ w.frozen? ⟨b, 3, none⟩ = false ∧
    w.frozen? ⟨b, 4, none⟩ = false ∧ w.frozen? ⟨b, 5, none⟩ = false ∧ w.frozen? ⟨b, 6, none⟩ = false ∧ w.frozen? ⟨b, 7, none⟩ = false :=
  ⟨free_at h 0, free_at h 1, free_at h 2, free_at h 3, free_at h 4, free_at h 5, free_at h 6, free_at h 7⟩
theorem RdAt.set0 {w : World} {b : Nat} {r : TX.Rd} (h : RdAt w b r) (x : List UInt8) : RdAt (w.setCell ⟨b, 0, none⟩ (S x)) b { r with hd := x } := heap_setCell_at h 0 _
theorem RdAt.set1 {w : World} {b : Nat} {r : TX.Rd} (h : RdAt w b r) (x : List UInt8) : RdAt (w.setCell ⟨b, 1, none⟩ (S x)) b { r with nm := x } := heap_setCell_at h 1 _
theorem RdAt.set2 {w : World} {b : Nat} {r : TX.Rd} (h : RdAt w b r) (x : Int) : RdAt (w.setCell ⟨b, 2, none⟩ (I x)) b { r with sz := x } := heap_setCell_at h 2 _
theorem RdAt.set3 {w : World} {b : Nat} {r : TX.Rd} (h : RdAt w b r) (x : Int) : RdAt (w.setCell ⟨b, 3, none⟩ (I x)) b { r with lf := x } := heap_setCell_at h 3 _
theorem RdAt.set4 {w : World} {b : Nat} {r : TX.Rd} (h : RdAt w b r) (x : Int) : RdAt (w.setCell ⟨b, 4, none⟩ (I x)) b { r with fl := x } := heap_setCell_at h 4 _
theorem RdAt.set5 {w : World} {b : Nat} {r : TX.Rd} (h : RdAt w b r) (x : Int) : RdAt (w.setCell ⟨b, 5, none⟩ (I x)) b { r with en := x } := heap_setCell_at h 5 _
theorem RdAt.set6 {w : World} {b : Nat} {r : TX.Rd} (h : RdAt w b r) (x : Int) : RdAt (w.setCell ⟨b, 6, none⟩ (I x)) b { r with mn := x } := heap_setCell_at h 6 _
theorem RdAt.set7 {w : World} {b : Nat} {r : TX.Rd} (h : RdAt w b r) (x : Int) : RdAt (w.setCell ⟨b, 7, none⟩ (I x)) b { r with e := x } := heap_setCell_at h 7 _
theorem RdAt.kept {w w' : World} {b : Nat} {r : TX.Rd} {T : List Nat} (h : RdAt w b r) (k : Kept T w w') (hn : b ∉ T) : RdAt w' b r := k.at h hn
theorem RdAt.lt {w : World} {b : Nat} {r : TX.Rd} (h : RdAt w b r) : b < w.heap.size := lt_of_block h
theorem ML.keptR {w w' : World} {b : Nat} {r : TX.Rd} (h : ML w) (hr : RdAt w b r) (k : Kept [b] w w') : ML w' := by
  obtain ⟨m, hm⟩ := h
  refine ⟨m, ?_⟩
  have hb : 0 < w.heap.size := World.block_lt_of_cell? w _ hm
  have hne : 0 ≠ b := fun e => by
    subst e
    have := hr.cells.1
    rw [hm] at this; cases this
  rw [k.cell hb (by simp; exact hne), hm]
set_option maxHeartbeats 4000000
set_option maxRecDepth 100000
theorem new_any (w : World) : Calls Tryd.prog 20 #[] w fun e w' => ∃ b, e = .returned (Ptr b) ∧ RdAt w' b TX.rd0 ∧ Kept [] w w' ∧ w.heap.size ≤ b := by
  go_enter Tryd.func20, Tryd.ntmps20
  go_wp2
  go_ret
  exact ⟨w.heap.size, rfl, heap_new w _, (Kept.refl [] w).alloc _, Nat.le_refl _⟩
theorem done_any (b : Nat) (r : TX.Rd) (w : World) (h : RdAt w b r) : Calls Tryd.prog 21 #[Ptr b] w fun e w' => e = .returned (.bool (TX.doneB r)) ∧ w = w' := by
  obtain ⟨c0, c1, c2, c3, c4, c5, c6, c7⟩ := h.cells
  clear h
  by_cases h1 : r.en = 2
  · by_cases h2 : r.e = 0
    · have HR : Hid (TX.doneB r = true) := Lib.hid (by simp [TX.doneB, h1, h2])
      go_enter Tryd.func21, Tryd.ntmps21
      go_wp2
      go_ret
      exact ⟨by rw [HR.out] <;> rfl, rfl⟩
    · have HR : Hid (TX.doneB r = false) := Lib.hid (by simp [TX.doneB, h2])
      go_enter Tryd.func21, Tryd.ntmps21
      go_wp2
      go_ret
      exact ⟨by rw [HR.out]; simp_all, rfl⟩
  · have HR : Hid (TX.doneB r = false) := Lib.hid (by simp [TX.doneB, h1])
    go_enter Tryd.func21, Tryd.ntmps21
    go_wp2
    go_ret
    exact ⟨by rw [HR.out] <;> rfl, rfl⟩
theorem many_any (b : Nat) (r : TX.Rd) (w : World) (h : RdAt w b r) : Calls Tryd.prog 26 #[Ptr b] w fun e w' => e = .returned (I r.mn) ∧ w = w' := by
  obtain ⟨c0, c1, c2, c3, c4, c5, c6, c7⟩ := h.cells
  clear h
  go_enter Tryd.func26, Tryd.ntmps26
  go_wp2
  go_ret
  exact ⟨rfl, rfl⟩
theorem file_any (b : Nat) (r : TX.Rd) (w : World) (h : RdAt w b r) : Calls Tryd.prog 25 #[Ptr b] w fun e w' => e = .returned (.tuple #[S r.nm, I r.sz, I r.lf]) ∧ Kept [] w w' := by
  obtain ⟨c0, c1, c2, c3, c4, c5, c6, c7⟩ := h.cells
  clear h
  go_enter Tryd.func25, Tryd.ntmps25
  go_wp2_with (fail)
  go_region
  go_wp2
  go_returns
  exact ⟨rfl, (Kept.refl _ _).drew⟩
theorem clone_any (b : Nat) (r : TX.Rd) (w : World) (h : RdAt w b r) : Calls Tryd.prog 22 #[Ptr b] w fun e w' => ∃ b', e = .returned (Ptr b') ∧ RdAt w' b' r ∧ Kept [] w w' ∧ w.heap.size ≤ b' := by
  obtain ⟨c0, c1, c2, c3, c4, c5, c6, c7⟩ := h.cells
  clear h
  go_enter Tryd.func22, Tryd.ntmps22
  go_wp2
  go_ret
  exact ⟨w.heap.size, rfl, heap_new w _, (Kept.refl [] w).alloc _, Nat.le_refl _⟩
/-! ### heads -/
theorem heads_any (b : Nat) (r : TX.Rd) (s : List UInt8) (w : World) (h : RdAt w b r) (hr : TX.OkR r) (hM : ML w) (hs : s.length ≤ 4611686018427387904) :
    Calls Tryd.prog 56 #[Ptr b, S s] w fun e w' => e = .returned (.tuple #[I (TX.headsF r s).n, I (TX.headsF r s).e]) ∧ RdAt w' b (TX.headsF r s).r ∧ Kept [b] w w' := by
  obtain ⟨c0, c1, c2, c3, c4, c5, c6, c7⟩ := h.cells
  obtain ⟨f0, f1, f2, f3, f4, f5, f6, f7⟩ := h.free
  have HH := Lib.hid (And.intro h hM)
  have HK := Lib.hid hr
  obtain ⟨n, hn⟩ : ∃ n, min s.length (512 - r.hd.length) = n := ⟨_, rfl⟩
  have hh := hr.hd
  have hnl : (s.take n).length = n := by simp; omega
  have hx : TX.headsF r s = (if (r.hd ++ s.take n).length < 512 then ⟨n, [], 0, { r with hd := r.hd ++ s.take n }⟩
      else
        if 0 < r.en ∧ ((TX.parseL (r.hd ++ s.take n)).e ≠ 0 ∨ (TX.parseL (r.hd ++ s.take n)).en = false) then ⟨0, [], 200, { r with hd := [] }⟩
        else if (TX.parseL (r.hd ++ s.take n)).e ≠ 0 then ⟨0, [], (TX.parseL (r.hd ++ s.take n)).e, { r with hd := [] }⟩
        else if (TX.parseL (r.hd ++ s.take n)).en = true then ⟨n, [], 0, { r with hd := [], en := r.en + 1 }⟩
        else ⟨n, [], 0, { r with hd := [], nm := (TX.parseL (r.hd ++ s.take n)).nm, sz := (TX.parseL (r.hd ++ s.take n)).sz, lf := (TX.parseL (r.hd ++ s.take n)).sz, mn := r.mn + 1, fl := TX.fillOf (TX.parseL (r.hd ++ s.take n)).sz }⟩) := by
    unfold TX.headsF; simp only [hn]
  have HX := Lib.hid hx
  have hmin : min (s.length : Int) (512 - (r.hd.length : Int)) = (n : Int) := by omega
  have hns : (n : Int) ≤ s.length := by omega
  have hsub : wrap64 (512 - (r.hd.length : Int)) = 512 - (r.hd.length : Int) := by unfold wrap64; omega
  have hadd : r.hd.length + (s.take n).length ≤ 9223372036854775807 := by omega
  have HN := Lib.hid (And.intro hn hnl)
  clear h hr hM hn hnl hx hh
  go_enter Tryd.func56, Tryd.ntmps56
  go_upto_region 2 with (fail)
  go_region
  go_upto_region 3 with (fail)
  obtain ⟨H, hH⟩ : ∃ H, r.hd ++ s.take n = H := ⟨_, rfl⟩
  obtain ⟨W, hW⟩ : ∃ W, (w.setCell ⟨b, 0, none⟩ (S (r.hd ++ s.take n))).drew = W := ⟨_, rfl⟩
  rw [hW]
  have RA : RdAt W b { r with hd := H } := by rw [← hW, ← hH]; exact (HH.out.1.set0 _)
  have KA : Kept [b] w W := by rw [← hW]; exact ((Kept.refl [b] w).setCell (.inl (by simp)) _).drew
  have MA : ML W := HH.out.2.keptR HH.out.1 KA
  have HA := Lib.hid (And.intro RA (And.intro KA MA))
  have hHl : H.length = r.hd.length + n := by rw [← hH, List.length_append, HN.out.2]
  have hx := HX.out
  rw [hH] at hx ⊢
  have HY := Lib.hid hx
  clear hx HX hW c0 c1 c2 c3 c4 c5 c6 c7 f0 f1 f2 f3 f4 f5 f6 f7 hadd
  obtain ⟨c0, c1, c2, c3, c4, c5, c6, c7⟩ := RA.cells
  obtain ⟨f0, f1, f2, f3, f4, f5, f6, f7⟩ := RA.free
  dsimp only at c0 c1 c2 c3 c4 c5 c6 c7
  clear RA KA MA hH
  by_cases hlt : H.length < 512
  · have HR := Lib.hid (HY.out.trans (if_pos hlt))
    have hlt' : (H.length : Int) < 512 := by omega
    clear HY hlt
    go_wp2
    go_returns
    rw [HR.out]
    exact ⟨rfl, HA.out.1, HA.out.2.1⟩
  · have HR := Lib.hid (HY.out.trans (if_neg hlt))
    have hlt' : ¬ (H.length : Int) < 512 := by omega
    clear HY hlt hHl hmin hsub hns
    go_wp2_with (fail)
    refine (parse_any H W HA.out.2.2).mono ?_
    rintro e w3 ⟨rfl, k3⟩
    have hps := TX.parse_size H
    obtain ⟨p, hp⟩ : ∃ p, TX.parseL H = p := ⟨_, rfl⟩
    rw [hp] at HR hps ⊢
    obtain ⟨pn, ps, pe, pc⟩ := p
    have R3 : RdAt w3 b { r with hd := H } := HA.out.1.kept k3 (by simp)
    have H3 := Lib.hid (And.intro R3 (HA.out.2.1.trans' (k3.mono (by simp))))
    clear c0 c1 c2 c3 c4 c5 c6 c7 f0 f1 f2 f3 f4 f5 f6 f7 k3 hp
    obtain ⟨c0, c1, c2, c3, c4, c5, c6, c7⟩ := R3.cells
    obtain ⟨f0, f1, f2, f3, f4, f5, f6, f7⟩ := R3.free
    dsimp only at c0 c1 c2 c3 c4 c5 c6 c7 hps
    clear R3
    dsimp only at HR
    obtain ⟨hps0, hps1⟩ := hps
    obtain ⟨hm0, hm1⟩ := HK.out.mn
    obtain ⟨he0, he1⟩ := HK.out.en
    by_cases hpc : pc = 0
    · subst hpc
      cases pe with
      | true =>
        have HQ := Lib.hid (HR.out.trans (show _ = TX.WR.mk n [] 0 { r with hd := [], en := r.en + 1 } by simp))
        clear HR
        go_wp2
        all_goals
          go_returns
          rw [HQ.out]
          exact ⟨rfl, (H3.out.1.set0 []).set5 (r.en + 1), ((H3.out.2.setCell (.inl (by simp)) _).setCell (.inl (by simp)) _)⟩
      | false =>
        by_cases hen : 0 < r.en
        · have HQ := Lib.hid (HR.out.trans (show _ = TX.WR.mk 0 [] 200 { r with hd := [] } by simp [hen]))
          clear HR
          go_wp2
          go_returns
          rw [HQ.out]
          exact ⟨rfl, H3.out.1.set0 [], H3.out.2.setCell (.inl (by simp)) _⟩
        · have HQ := Lib.hid (HR.out.trans (show _ = TX.WR.mk n [] 0 { r with hd := [], nm := pn, sz := ps, lf := ps, mn := r.mn + 1, fl := TX.fillOf ps } by simp [hen]))
          clear HR
          have hq1 : (0 : Int) ≤ ps % 512 := by omega
          have hq2 : ps % 512 ≤ 511 := by omega
          go_wp2
          go_returns
          rw [HQ.out]
          have hfl : (-(ps % 512) % 512 : Int) = TX.fillOf ps := by unfold TX.fillOf; omega
          rw [hfl]
          exact ⟨rfl, (((((H3.out.1.set0 []).set1 pn).set2 ps).set3 ps).set6 (r.mn + 1)).set4 _, (((((H3.out.2.setCell (.inl (by simp)) _).setCell (.inl (by simp)) _).setCell (.inl (by simp)) _).setCell (.inl (by simp)) _).setCell (.inl (by simp)) _).setCell (.inl (by simp)) _⟩
    · by_cases hen : 0 < r.en
      · have HQ := Lib.hid (HR.out.trans (show _ = TX.WR.mk 0 [] 200 { r with hd := [] } by simp [hen, hpc]))
        clear HR
        go_wp2
        go_returns
        rw [HQ.out]
        exact ⟨rfl, H3.out.1.set0 [], H3.out.2.setCell (.inl (by simp)) _⟩
      · have HQ := Lib.hid (HR.out.trans (show _ = TX.WR.mk 0 [] pc { r with hd := [] } by simp [hen, hpc]))
        clear HR
        go_wp2
        go_returns
        rw [HQ.out]
        exact ⟨rfl, H3.out.1.set0 [], H3.out.2.setCell (.inl (by simp)) _⟩
end Go.Proofs.YtgdioalhlmnhhaaDoor
