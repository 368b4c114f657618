/- Walks and lemmas on the program of this seat, used by its statements; each theorem bears its own conditions. -/
import Derived.Test.YtdkjlaldhohbmaaGreatPF
import Derived.Handy
import Derived.OwnWalk
import Derived.Deep.AppendLies
import Derived.IntWalk
import Derived.Deep.CutRange
import Derived.Deep.RegionHeld3
import Derived.Deep.RegionLaw
import Derived.Maps.OwnSet
import Derived.Maps.Range
import Derived.Deep.OwnRows
namespace Go.Proofs.YtdkjlaldhohbmaaGreat
open Go.RowKit
set_option linter.unusedVariables false
set_option linter.unusedSimpArgs false
set_option maxHeartbeats 8000000
set_option maxRecDepth 100000
/-! ### A segment's number, read -/
def headP (m : Nat) : List UInt8 := 83 :: putN 6 m ++ [0] ++ List.replicate 56 255
def numF (s : List UInt8) : Nat := if getN ((s.drop 1).take 6) = 0 then 0 else if headP (getN ((s.drop 1).take 6)) = s then getN ((s.drop 1).take 6) else 0
theorem rep255 : Lib.repeatL ([255] : List UInt8) 56 = List.replicate 56 255 := by kernel_rfl
theorem repeat_any255 (w : World) : Calls Tryz.prog 111 #[S [255], I 56] w fun e w' => e = .returned (S (List.replicate 56 255)) ∧ Kept [] w w' := by
  refine (Tryz.strings_Repeat ⟨#[255]⟩ 56 w (by omega) (by decide)).mono ?_
  rintro e w' ⟨rfl, hb⟩
  exact ⟨by rw [show (⟨#[255]⟩ : ByteArray).data.toList = [255] from rfl, rep255], Kept.of_below hb (Nat.le_refl _)⟩
set_option maxHeartbeats 1000000 in
theorem number_any (w : World) (s : List UInt8) (hs : s.length = 64) : Calls Tryz.prog 85 #[S s] w fun e w' => e = .returned (I (numF s)) ∧ Kept [] w w' := by
  have hl6 : ((s.drop 1).take 6).length = 6 := by rw [List.length_take, List.length_drop]; omega
  have HG := Lib.hid (get_any w ((s.drop 1).take 6) (by intro h; rw [h] at hl6; simp at hl6) (by omega))
  rw [show ((s.drop 1).take 6) = (s.take 7).tail by rw [← List.drop_one, List.drop_take]] at HG
  have hlt := getN_lt ((s.drop 1).take 6)
  rw [hl6] at hlt
  obtain ⟨m, hm⟩ : ∃ m, getN ((s.drop 1).take 6) = m := ⟨_, rfl⟩
  have hm0 : getN (s.take 7).tail = m := by rw [← hm]; congr 1; rw [← List.drop_one, List.drop_take]
  have HN : Hid (numF s = if m = 0 then 0 else if headP m = s then m else 0) := Lib.hid (by unfold numF; rw [show ((s.drop 1).take 6) = (s.take 7).tail by rw [← List.drop_one, List.drop_take]]; rw [hm0])
  rw [show ((s.drop 1).take 6) = (s.take 7).tail by rw [← List.drop_one, List.drop_take]] at hm
  rw [hm] at HG
  rw [show ((s.drop 1).take 6) = (s.take 7).tail by rw [← List.drop_one, List.drop_take], hm] at hlt
  have HB := Lib.hid (fun W => begin_any W m hlt)
  have HR := Lib.hid (fun W => repeat_any255 W)
  obtain ⟨rp, hrp⟩ : ∃ rp : List UInt8, List.replicate 56 255 = rp := ⟨_, rfl⟩
  obtain ⟨bg, hbg⟩ : ∃ bg, 83 :: putN 6 m = bg := ⟨_, rfl⟩
  rw [show headP m = bg ++ [0] ++ rp from by unfold headP; rw [hrp, hbg]] at HN
  have hrl : rp.length ≤ 56 := by rw [← hrp]; simp
  have hbl : bg.length ≤ 7 := by rw [← hbg, List.length_cons, putN_len]; omega
  rw [hrp] at HR
  rw [hbg] at HB
  have hsI : (s.length : Int) = 64 := by omega
  clear hlt hm hl6 hm0 hrp hbg
  go_enter Tryz.func85, Tryz.ntmps85
  go_wp2_with (fail)
  refine HG.out.mono ?_
  rintro e w1 ⟨rfl, rfl⟩
  by_cases hz : m = 0
  · have hzI : (m : Int) < 1 := by omega
    subst hz
    go_wp2_with (fail)
    go_ret
    exact ⟨by rw [HN.out]; rfl, Kept.refl _ _⟩
  · have hzI : ¬ (m : Int) < 1 := by omega
    go_wp2_with (fail)
    refine (HB.out _).mono ?_
    rintro e w2 ⟨rfl, k2⟩
    have K2 := Lib.hid k2
    clear k2
    go_wp2_with (fail)
    refine (HR.out _).mono ?_
    rintro e w3 ⟨rfl, k3⟩
    have K3 := Lib.hid (K2.out.trans' k3)
    clear k3
    by_cases hh : bg ++ [0] ++ rp = s
    · have HNH : Hid (numF s = m) := Lib.hid (by rw [HN.out, if_neg hz, if_pos hh])
      go_wp2_with (fail)
      go_ret
      exact ⟨by rw [HNH.out]; rfl, K3.out⟩
    · have HNH : Hid (numF s = 0) := Lib.hid (by rw [HN.out, if_neg hz, if_neg hh])
      have hb1 : ¬ bg ++ 0 :: rp = s := by simpa using hh
      have hb2 : (bg ++ 0 :: rp != s) = true := by simpa using hh
      have hb3 : (bg ++ 0 :: rp == s) = false := by simpa using hh
      go_wp2_with (fail)
      go_ret
      exact ⟨by rw [HNH.out]; rfl, K3.out⟩
/-! ### Open's segments, pure -/
/-- What the heads of n blocks say: L segments, the oldest's number D + 1. -/
def HeadsOK (n D L : Nat) (nf : Nat → Nat) : Prop := ∀ j, j < n → nf ((D + j) % n) = if j < L then D + j + 1 else 0
theorem mod_hits {n D N : Nat} (hN : N < n) : ∃ j, j < n ∧ (D + j) % n = N := by
  have hn : 0 < n := by omega
  have hD := Nat.mod_lt D hn
  have e := Nat.div_add_mod D n
  obtain ⟨q, hq⟩ : ∃ q, D / n = q := ⟨_, rfl⟩
  obtain ⟨r, hr⟩ : ∃ r, D % n = r := ⟨_, rfl⟩
  rw [hq, hr] at e
  rw [hr] at hD
  by_cases h : r ≤ N
  · refine ⟨N - r, by omega, ?_⟩
    rw [show D + (N - r) = N + n * q by omega, Nat.add_mul_mod_self_left, Nat.mod_eq_of_lt hN]
  · refine ⟨N + n - r, by omega, ?_⟩
    rw [show D + (N + n - r) = N + n * (q + 1) by rw [Nat.mul_succ]; omega, Nat.add_mul_mod_self_left, Nat.mod_eq_of_lt hN]
section
variable {n D L : Nat} {nf : Nat → Nat}
theorem HeadsOK.newest (h : HeadsOK n D L nf) (h1 : 1 ≤ L) (h2 : L ≤ n) {N : Nat} (hN : N < n) (hmax : ∀ i, i < n → nf i ≤ nf N) : N = (D + (L - 1)) % n ∧ nf N = D + L := by
  obtain ⟨j, hj, rfl⟩ := mod_hits (D := D) hN
  have hb := hmax ((D + (L - 1)) % n) (Nat.mod_lt _ (by omega))
  rw [h (L - 1) (by omega), if_pos (by omega), h j hj] at hb
  rw [h j hj]
  split at hb
  · next hjL =>
    have : j = L - 1 := by omega
    subst this
    exact ⟨rfl, by rw [if_pos hjL]; omega⟩
  · omega
/-- The block that the way back comes to behind i steps. -/
def backB (n D L i : Nat) : Nat := (D + L - 1 + n - i) % n
theorem backB_zero (h1 : 1 ≤ L) : backB n D L 0 = (D + (L - 1)) % n := by
  unfold backB
  rw [Nat.sub_zero, Nat.add_mod_right, show D + L - 1 = D + (L - 1) by omega]
theorem backB_next (hn : 0 < n) {i : Nat} (hi : i < L) (h2 : L ≤ n) : (backB n D L i + n - 1) % n = backB n D L (i + 1) := by
  unfold backB
  have hm := Nat.mod_lt (D + L - 1 + n - i) hn
  have e := Nat.div_add_mod (D + L - 1 + n - i) n
  obtain ⟨q, hq⟩ : ∃ q, (D + L - 1 + n - i) / n = q := ⟨_, rfl⟩
  obtain ⟨r, hr⟩ : ∃ r, (D + L - 1 + n - i) % n = r := ⟨_, rfl⟩
  rw [hq, hr] at e
  rw [hr]
  have e1 : D + L - 1 + n - (i + 1) + n = (r + n - 1) + n * q := by omega
  have e2 : (D + L - 1 + n - (i + 1) + n) % n = (D + L - 1 + n - (i + 1)) % n := Nat.add_mod_right _ _
  rw [e1, Nat.add_mul_mod_self_left] at e2
  exact e2
theorem backB_is {i : Nat} (hi : i < L) : backB n D L i = (D + (L - 1 - i)) % n := by
  unfold backB
  rw [show D + L - 1 + n - i = D + (L - 1 - i) + n by omega, Nat.add_mod_right]
theorem HeadsOK.back (h : HeadsOK n D L nf) (h2 : L ≤ n) {i : Nat} (hi : i < L) : nf (backB n D L i) = D + L - i := by
  rw [backB_is hi, h _ (by omega), if_pos (by omega)]; omega
theorem HeadsOK.stop (h : HeadsOK n D L nf) (h1 : 1 ≤ L) (h2 : L ≤ n) (hD : 0 < D) : nf (backB n D L L) ≠ D := by
  have e : backB n D L L = (D + (n - 1)) % n := by unfold backB; rw [show D + L - 1 + n - L = D + (n - 1) by omega]
  rw [e, h (n - 1) (by omega)]
  split <;> omega
/-- The segments in the order in which the way back meets them. -/
def backs (n D L i : Nat) : List Sg := (List.range i).map fun k => (backB n D L k, D + L - k)
theorem backs_len (i : Nat) : (backs n D L i).length = i := by simp [backs]
theorem backs_succ (i : Nat) : backs n D L (i + 1) = backs n D L i ++ [(backB n D L i, D + L - i)] := by
  unfold backs; rw [List.range_succ, List.map_append]; rfl
end
theorem backs_sgs {n D : Nat} (l : List (List (List Ch))) (h : 1 ≤ l.length) : (backs n D l.length l.length).reverse = sgs n D l := by
  apply List.ext_getElem
  · rw [List.length_reverse, backs_len, sgs_len]
  · intro i h1 h2
    rw [sgs_len] at h2
    rw [sgs_at, List.getElem_reverse]
    unfold backs
    simp only [List.getElem_map, List.getElem_range, List.length_map, List.length_range]
    rw [backB_is (by omega), show l.length - 1 - (l.length - 1 - i) = i by omega, show D + l.length - (l.length - 1 - i) = D + i + 1 by omega]
/-! ### Heads of the blocks of a store -/
theorem head_num (num : Nat) (h1 : 1 ≤ num) (h2 : num < 256 ^ 6) (T : List UInt8) : numF ((headL num ++ T).take 64) = num := by
  have e : (headL num ++ T).take 64 = headL num := by
    rw [show (64 : Nat) = (headL num).length from (headL_len num).symm, List.take_left]
  rw [e]
  have e2 : ((headL num).drop 1).take 6 = putN 6 num := by
    unfold headL
    rw [List.cons_append, List.drop_succ_cons, List.drop_zero]
    have h6 : ∀ (a b : List UInt8), a.length = 6 → (a ++ b).take 6 = a := fun a b h => by rw [← h, List.take_left]
    exact h6 _ _ (putN_len 6 num)
  have e3 : headP num = headL num := by unfold headP headL; simp
  unfold numF
  rw [e2, getN_put 6 num h2, if_neg (by omega), if_pos e3]
theorem full_num : numF (fullB.take 64) = 0 := by kernel_rfl
/-! ### slices.Reverse at the segments -/
theorem sc_cons (s : Sg) (l : List Sg) : segCells (s :: l) = I s.1 :: I s.2 :: segCells l := rfl
theorem segCells_set (l : List Sg) : ∀ (i : Nat) (x : Sg), segCells (l.set i x) = ((segCells l).set (i * 2) (I x.1)).set (i * 2 + 1) (I x.2) := by
  induction l with
  | nil => intro i x; rfl
  | cons s l ih =>
    intro i x
    cases i with
    | zero => rfl
    | succ i =>
      show segCells (s :: l.set i x) = _
      rw [sc_cons, sc_cons, ih, show (i + 1) * 2 = i * 2 + 1 + 1 by omega]
      rfl
theorem row_set2 {w : World} {g : Nat} {cur : Array Value} {es : List Sg} (hg : w.heap[g]? = some (.cells cur 119 (0, 0))) (htk : cur.toList.take (es.length * 2) = segCells es) (i : Nat) (x : Sg) :
    ∃ cur', ((w.setCell ⟨g, i * 2, none⟩ (I x.1)).setCell ⟨g, i * 2 + 1, none⟩ (I x.2)).heap[g]? = some (.cells cur' 119 (0, 0)) ∧ cur'.size = cur.size ∧ cur'.toList.take ((es.set i x).length * 2) = segCells (es.set i x) := by
  have h1 := heap_setCell_at hg (i * 2) (I x.1)
  have h2 := heap_setCell_at h1 (i * 2 + 1) (I x.2)
  refine ⟨_, h2, by simp, ?_⟩
  rw [segCells_set, ← htk]
  simp [List.take_set]
theorem seg_at {w : World} {g : Nat} {cur : Array Value} {es : List Sg} (hg : w.heap[g]? = some (.cells cur 119 (0, 0))) (htk : cur.toList.take (es.length * 2) = segCells es) (i : Nat) (hi : i < es.length) :
    w.cell? ⟨g, i * 2, none⟩ = some (I es[i].1) ∧ w.cell? ⟨g, i * 2 + 1, none⟩ = some (I es[i].2) := by
  obtain ⟨q1, q2⟩ := segCells_at es i hi
  rw [← htk] at q1 q2
  rw [cell_at hg, cell_at hg]
  constructor
  · rw [← q1, List.getElem?_take_of_lt (by omega), Array.getElem?_toList]
  · rw [← q2, List.getElem?_take_of_lt (by omega), Array.getElem?_toList]
set_option maxHeartbeats 4000000 in
theorem sreverse_any (w : World) (segs : List Sg) (g c : Nat) (cur : Array Value) (hg : w.heap[g]? = some (.cells cur 119 (0, 0))) (hsz : segs.length * 2 ≤ cur.size) (htk : cur.toList.take (segs.length * 2) = segCells segs) (hs : segs.length ≤ 1000) :
    Calls Tryz.prog 86 #[.slice (some ⟨g, 0, none⟩) segs.length c] w fun e w' => e = .returned (.tuple #[]) ∧ (∃ cur', w'.heap[g]? = some (.cells cur' 119 (0, 0)) ∧ cur'.size = cur.size ∧ cur'.toList.take (segs.length * 2) = segCells segs.reverse) ∧ Kept [g] w w' := by
  have hsI : (segs.length : Int) ≤ 1000 := by omega
  obtain ⟨L, hL⟩ : ∃ L, segs.length = L := ⟨_, rfl⟩
  have H := Lib.hid (And.intro hg (And.intro hsz (And.intro htk (And.intro hs hL))))
  rw [hL] at hsI ⊢
  clear hg hsz htk hs hL
  go_enter Tryz.func86, Tryz.ntmps86
  go_wp2_with (fail)
  go_loopw [2, 3] (fun v2 v3 wr => ∃ (i : Nat) (cu : Array Value) (es : List Sg), v2 = I i ∧ v3 = I ((L : Int) - 1 - i) ∧ 2 * i ≤ L ∧ wr.heap[g]? = some (.cells cu 119 (0, 0)) ∧ cu.size = cur.size ∧ es.length = L ∧ cu.toList.take (L * 2) = segCells es ∧ (∀ k, k < L → es[k]? = if k < i ∨ L - 1 - i < k then segs[L - 1 - k]? else segs[k]?) ∧ Kept [g] w wr) (fun v2 _ _ => L - (intOf v2).toNat)
  case atStart =>
    obtain ⟨hg, hsz, htk, hs, hL⟩ := H.out
    exact ⟨0, cur, segs, rfl, by go_num, by omega, hg, rfl, hL, by rw [← hL]; exact htk, fun k hk => by rw [if_neg (by omega)], Kept.refl _ _⟩
  case round =>
    obtain ⟨i, cu, es, rfl, rfl, hi2, hgr, hcs, hel, htk, hes, kr⟩ := hrel
    by_cases hlt : (i : Int) < (L : Int) - 1 - i
    · obtain ⟨j, hj⟩ : ∃ j : Nat, (L : Int) - 1 - i = (j : Int) := ⟨L - 1 - i, by omega⟩
      have hil : i < es.length := by omega
      have hjl : j < es.length := by omega
      rw [hj] at hlt ⊢
      rw [← hel] at htk
      obtain ⟨a1, a2⟩ := seg_at hgr htk i hil
      obtain ⟨b1, b2⟩ := seg_at hgr htk j hjl
      obtain ⟨⟨x1, x2⟩, hx⟩ : ∃ x, es[i] = x := ⟨_, rfl⟩
      obtain ⟨⟨y1, y2⟩, hy⟩ : ∃ y, es[j] = y := ⟨_, rfl⟩
      rw [hx] at a1 a2
      rw [hy] at b1 b2
      obtain ⟨cu1, r1, r2, r3⟩ := row_set2 (es := es) hgr htk i (y1, y2)
      obtain ⟨cu2, r4, r5, r6⟩ := row_set2 r1 r3 j (x1, x2)
      have hfz : ∀ q, wr.frozen? ⟨g, q, none⟩ = false := free_at hgr
      have hsi : ∀ q, q < cu.size → (wr.cell? ⟨g, q, none⟩).isSome = true := fun q hq => by rw [cell_at hgr, Array.getElem?_eq_getElem hq]; rfl
      have hjL : (j : Int) < L := by omega
      have hiL : (i : Int) < L := by omega
      have hij : ¬ (j : Int) = i := by omega
      simp only at a1 a2 b1 b2
      have HX := Lib.hid (And.intro hx (And.intro hy (And.intro hj (And.intro hes (And.intro kr (And.intro hel (And.intro r4 (And.intro r5 (And.intro r6 (And.intro r2 hcs))))))))))
      clear hx hy hes kr r1 r2 r3 r4 r5 r6 hel hcs htk
      go_wp2_with (fail)
      go_region
      all_goals
        go_wp2
        go_roundw
        case rel =>
          obtain ⟨hx, hy, hj, hes, kr, hel, r4, r5, r6, r2, hcs⟩ := HX.out
          refine ⟨i + 1, cu2, (es.set i (y1, y2)).set j (x1, x2), by go_num, by congr 1; omega, by omega, r4, by rw [r5, r2, hcs], by simpa using hel, ?_, fun k hk => ?_, ?_⟩
          · have := r6
            simp only [List.length_set, hel] at this
            exact this
          · have hi0 := hes i (by omega)
            have hj0 := hes j (by omega)
            rw [List.getElem?_eq_getElem hil, hx, if_neg (by omega)] at hi0
            rw [List.getElem?_eq_getElem hjl, hy, if_neg (by omega)] at hj0
            rw [List.getElem?_set, List.getElem?_set]
            by_cases h1 : j = k
            · subst h1
              rw [if_pos rfl, if_pos (by simpa using hjl), if_pos (by omega), hi0]
              congr 1; omega
            · rw [if_neg h1]
              by_cases h2 : i = k
              · subst h2
                rw [if_pos rfl, if_pos hil, if_pos (by omega), hj0]
                congr 1; omega
              · rw [if_neg h2, hes k hk]
                by_cases h3 : k < i ∨ L - 1 - i < k
                · rw [if_pos h3, if_pos (by omega)]
                · rw [if_neg h3, if_neg (by omega)]
          · exact ((((kr.setCell (.inl (by simp)) _).setCell (.inl (by simp)) _).setCell (.inl (by simp)) _).setCell (.inl (by simp)) _).drew
        case measure => simp [intOf]; omega
    · have HX := Lib.hid (And.intro hes (And.intro kr (And.intro hel (And.intro hgr (And.intro hcs htk)))))
      have hi3 : L ≤ 2 * i + 1 := by omega
      clear hes kr hel hgr hcs htk
      go_wp2_with (fail)
      refine bodyPost_end (v := .tuple #[]) (by simp [results, Tryz.results86, go_sem]) rfl ?_
      obtain ⟨hes, kr, hel, hgr, hcs, htk⟩ := HX.out
      obtain ⟨_, _, _, hs, hL⟩ := H.out
      refine ⟨rfl, ⟨cu, hgr, hcs, ?_⟩, kr⟩
      rw [htk]
      congr 1
      apply List.ext_getElem?
      intro k
      by_cases hk : k < L
      · rw [hes k hk, List.getElem?_reverse (by omega), hL]
        split
        · rfl
        · congr 1; omega
      · rw [List.getElem?_eq_none (by omega), List.getElem?_eq_none (by simp; omega)]
end Go.Proofs.YtdkjlaldhohbmaaGreat
