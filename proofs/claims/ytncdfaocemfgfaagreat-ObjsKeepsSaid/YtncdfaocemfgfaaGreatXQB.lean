/- Walks and lemmas on the program of this seat, used by its statements; each theorem bears its own conditions. -/
import Derived.Test.YtncdfaocemfgfaaGreatXPD
import Derived.Handy
import Derived.OwnWalk
import Derived.Deep.AppendLies
import Derived.IntWalk
import Derived.Deep.CutRange
import Derived.Deep.RegionHeld3
import Derived.Deep.RegionLaw
import Derived.Maps.OwnSet
import Derived.Maps.Range
import Derived.Deep.OwnRows
namespace Go.Proofs.YtncdfaocemfgfaaGreat
open Go.RowKit
set_option linter.unusedVariables false
set_option linter.unusedSimpArgs false
section
set_option maxHeartbeats 8000000
set_option maxRecDepth 100000
/-! ### A segment's number, read -/
def headP (m : Nat) : List UInt8 := 83 :: putN 6 m ++ [0] ++ List.replicate 56 255
def numF (s : List UInt8) : Nat := if getN ((s.drop 1).take 6) = 0 then 0 else if headP (getN ((s.drop 1).take 6)) = s then getN ((s.drop 1).take 6) else 0
theorem rep255 : Lib.repeatL ([255] : List UInt8) 56 = List.replicate 56 255 := by kernel_rfl
theorem repeat_any255 (w : World) : Calls Tryz.prog 105 #[S [255], I 56] w fun e w' => e = .returned (S (List.replicate 56 255)) ∧ Kept [] w w' := by
  refine (Tryz.strings_Repeat ⟨#[255]⟩ 56 w (by omega) (by decide)).mono ?_
  rintro e w' ⟨rfl, hb⟩
  exact ⟨by rw [show (⟨#[255]⟩ : ByteArray).data.toList = [255] from rfl, rep255], Kept.of_below hb (Nat.le_refl _)⟩
set_option maxHeartbeats 1000000 in
theorem number_any (w : World) (s : List UInt8) (hs : s.length = 64) : Calls Tryz.prog 87 #[S s] w fun e w' => e = .returned (I (numF s)) ∧ Kept [] w w' := by
  have hl6 : ((s.drop 1).take 6).length = 6 := by rw [List.length_take, List.length_drop]; omega
  have HG := Lib.hid (get_any w ((s.drop 1).take 6) (by intro h; rw [h] at hl6; simp at hl6) (by omega))
  rw [show ((s.drop 1).take 6) = (s.take 7).tail by rw [← List.drop_one, List.drop_take]] at HG
  have hlt := getN_lt ((s.drop 1).take 6)
  rw [hl6] at hlt
  obtain ⟨m, hm⟩ : ∃ m, getN ((s.drop 1).take 6) = m := ⟨_, rfl⟩
  have hm0 : getN (s.take 7).tail = m := by rw [← hm]; congr 1; rw [← List.drop_one, List.drop_take]
  have HN : Hid (numF s = if m = 0 then 0 else if headP m = s then m else 0) := Lib.hid (by unfold numF; rw [show ((s.drop 1).take 6) = (s.take 7).tail by rw [← List.drop_one, List.drop_take]]; rw [hm0])
  rw [show ((s.drop 1).take 6) = (s.take 7).tail by rw [← List.drop_one, List.drop_take]] at hm
  rw [hm] at HG
  rw [show ((s.drop 1).take 6) = (s.take 7).tail by rw [← List.drop_one, List.drop_take], hm] at hlt
  have HB := Lib.hid (fun W => begin_any W m hlt)
  have HR := Lib.hid (fun W => repeat_any255 W)
  obtain ⟨rp, hrp⟩ : ∃ rp : List UInt8, List.replicate 56 255 = rp := ⟨_, rfl⟩
  obtain ⟨bg, hbg⟩ : ∃ bg, 83 :: putN 6 m = bg := ⟨_, rfl⟩
  rw [show headP m = bg ++ [0] ++ rp from by unfold headP; rw [hrp, hbg]] at HN
  have hrl : rp.length ≤ 56 := by rw [← hrp]; simp
  have hbl : bg.length ≤ 7 := by rw [← hbg, List.length_cons, putN_len]; omega
  rw [hrp] at HR
  rw [hbg] at HB
  have hsI : (s.length : Int) = 64 := by omega
  clear hlt hm hl6 hm0 hrp hbg
  go_enter Tryz.func87, Tryz.ntmps87
  go_wp2_with (fail)
  refine HG.out.mono ?_
  rintro e w1 ⟨rfl, rfl⟩
  by_cases hz : m = 0
  · have hzI : (m : Int) < 1 := by omega
    subst hz
    go_wp2_with (fail)
    go_ret
    exact ⟨by rw [HN.out]; rfl, Kept.refl _ _⟩
  · have hzI : ¬ (m : Int) < 1 := by omega
    go_wp2_with (fail)
    refine (HB.out _).mono ?_
    rintro e w2 ⟨rfl, k2⟩
    have K2 := Lib.hid k2
    clear k2
    go_wp2_with (fail)
    refine (HR.out _).mono ?_
    rintro e w3 ⟨rfl, k3⟩
    have K3 := Lib.hid (K2.out.trans' k3)
    clear k3
    by_cases hh : bg ++ [0] ++ rp = s
    · have HNH : Hid (numF s = m) := Lib.hid (by rw [HN.out, if_neg hz, if_pos hh])
      go_wp2_with (fail)
      go_ret
      exact ⟨by rw [HNH.out]; rfl, K3.out⟩
    · have HNH : Hid (numF s = 0) := Lib.hid (by rw [HN.out, if_neg hz, if_neg hh])
      have hb1 : ¬ bg ++ 0 :: rp = s := by simpa using hh
      have hb2 : (bg ++ 0 :: rp != s) = true := by simpa using hh
      have hb3 : (bg ++ 0 :: rp == s) = false := by simpa using hh
      go_wp2_with (fail)
      go_ret
      exact ⟨by rw [HNH.out]; rfl, K3.out⟩
/-! ### Open's segments, pure -/
/-- What the heads of n blocks say: L segments, the oldest's number D + 1. -/
def HeadsOK (n D L : Nat) (nf : Nat → Nat) : Prop := ∀ j, j < n → nf ((D + j) % n) = if j < L then D + j + 1 else 0
theorem mod_hits {n D N : Nat} (hN : N < n) : ∃ j, j < n ∧ (D + j) % n = N := by
  have hn : 0 < n := by omega
  have hD := Nat.mod_lt D hn
  have e := Nat.div_add_mod D n
  obtain ⟨q, hq⟩ : ∃ q, D / n = q := ⟨_, rfl⟩
  obtain ⟨r, hr⟩ : ∃ r, D % n = r := ⟨_, rfl⟩
  rw [hq, hr] at e
  rw [hr] at hD
  by_cases h : r ≤ N
  · refine ⟨N - r, by omega, ?_⟩
    rw [show D + (N - r) = N + n * q by omega, Nat.add_mul_mod_self_left, Nat.mod_eq_of_lt hN]
  · refine ⟨N + n - r, by omega, ?_⟩
    rw [show D + (N + n - r) = N + n * (q + 1) by rw [Nat.mul_succ]; omega, Nat.add_mul_mod_self_left, Nat.mod_eq_of_lt hN]
section
variable {n D L : Nat} {nf : Nat → Nat}
theorem HeadsOK.newest (h : HeadsOK n D L nf) (h1 : 1 ≤ L) (h2 : L ≤ n) {N : Nat} (hN : N < n) (hmax : ∀ i, i < n → nf i ≤ nf N) : N = (D + (L - 1)) % n ∧ nf N = D + L := by
  obtain ⟨j, hj, rfl⟩ := mod_hits (D := D) hN
  have hb := hmax ((D + (L - 1)) % n) (Nat.mod_lt _ (by omega))
  rw [h (L - 1) (by omega), if_pos (by omega), h j hj] at hb
  rw [h j hj]
  split at hb
  · next hjL =>
    have : j = L - 1 := by omega
    subst this
    exact ⟨rfl, by rw [if_pos hjL]; omega⟩
  · omega
/-- The block that the way back comes to behind i steps. -/
def backB (n D L i : Nat) : Nat := (D + L - 1 + n - i) % n
theorem backB_zero (h1 : 1 ≤ L) : backB n D L 0 = (D + (L - 1)) % n := by
  unfold backB
  rw [Nat.sub_zero, Nat.add_mod_right, show D + L - 1 = D + (L - 1) by omega]
theorem backB_next (hn : 0 < n) {i : Nat} (hi : i < L) (h2 : L ≤ n) : (backB n D L i + n - 1) % n = backB n D L (i + 1) := by
  unfold backB
  have hm := Nat.mod_lt (D + L - 1 + n - i) hn
  have e := Nat.div_add_mod (D + L - 1 + n - i) n
  obtain ⟨q, hq⟩ : ∃ q, (D + L - 1 + n - i) / n = q := ⟨_, rfl⟩
  obtain ⟨r, hr⟩ : ∃ r, (D + L - 1 + n - i) % n = r := ⟨_, rfl⟩
  rw [hq, hr] at e
  rw [hr]
  have e1 : D + L - 1 + n - (i + 1) + n = (r + n - 1) + n * q := by omega
  have e2 : (D + L - 1 + n - (i + 1) + n) % n = (D + L - 1 + n - (i + 1)) % n := Nat.add_mod_right _ _
  rw [e1, Nat.add_mul_mod_self_left] at e2
  exact e2
theorem backB_is {i : Nat} (hi : i < L) : backB n D L i = (D + (L - 1 - i)) % n := by
  unfold backB
  rw [show D + L - 1 + n - i = D + (L - 1 - i) + n by omega, Nat.add_mod_right]
theorem HeadsOK.back (h : HeadsOK n D L nf) (h2 : L ≤ n) {i : Nat} (hi : i < L) : nf (backB n D L i) = D + L - i := by
  rw [backB_is hi, h _ (by omega), if_pos (by omega)]; omega
theorem HeadsOK.stop (h : HeadsOK n D L nf) (h1 : 1 ≤ L) (h2 : L ≤ n) (hD : 0 < D) : nf (backB n D L L) ≠ D := by
  have e : backB n D L L = (D + (n - 1)) % n := by unfold backB; rw [show D + L - 1 + n - L = D + (n - 1) by omega]
  rw [e, h (n - 1) (by omega)]
  split <;> omega
/-- The segments in the order in which the way back meets them. -/
def backs (n D L i : Nat) : List Sg := (List.range i).map fun k => (backB n D L k, D + L - k)
theorem backs_len (i : Nat) : (backs n D L i).length = i := by simp [backs]
theorem backs_succ (i : Nat) : backs n D L (i + 1) = backs n D L i ++ [(backB n D L i, D + L - i)] := by
  unfold backs; rw [List.range_succ, List.map_append]; rfl
end
theorem backs_sgs {n D : Nat} (l : List (List (List Ch))) (h : 1 ≤ l.length) : (backs n D l.length l.length).reverse = sgs n D l := by
  apply List.ext_getElem
  · rw [List.length_reverse, backs_len, sgs_len]
  · intro i h1 h2
    rw [sgs_len] at h2
    rw [sgs_at, List.getElem_reverse]
    unfold backs
    simp only [List.getElem_map, List.getElem_range, List.length_map, List.length_range]
    rw [backB_is (by omega), show l.length - 1 - (l.length - 1 - i) = i by omega, show D + l.length - (l.length - 1 - i) = D + i + 1 by omega]
/-! ### Heads of the blocks of a store -/
theorem head_num (num : Nat) (h1 : 1 ≤ num) (h2 : num < 256 ^ 6) (T : List UInt8) : numF ((headL num ++ T).take 64) = num := by
  have e : (headL num ++ T).take 64 = headL num := by
    rw [show (64 : Nat) = (headL num).length from (headL_len num).symm, List.take_left]
  rw [e]
  have e2 : ((headL num).drop 1).take 6 = putN 6 num := by
    unfold headL
    rw [List.cons_append, List.drop_succ_cons, List.drop_zero]
    have h6 : ∀ (a b : List UInt8), a.length = 6 → (a ++ b).take 6 = a := fun a b h => by rw [← h, List.take_left]
    exact h6 _ _ (putN_len 6 num)
  have e3 : headP num = headL num := by unfold headP headL; simp
  unfold numF
  rw [e2, getN_put 6 num h2, if_neg (by omega), if_pos e3]
theorem full_num : numF (fullB.take 64) = 0 := by kernel_rfl
/-! ### slices.Reverse at the segments -/
theorem sc_cons (s : Sg) (l : List Sg) : segCells (s :: l) = I s.1 :: I s.2 :: segCells l := rfl
theorem segCells_set (l : List Sg) : ∀ (i : Nat) (x : Sg), segCells (l.set i x) = ((segCells l).set (i * 2) (I x.1)).set (i * 2 + 1) (I x.2) := by
  induction l with
  | nil => intro i x; rfl
  | cons s l ih =>
    intro i x
    cases i with
    | zero => rfl
    | succ i =>
      show segCells (s :: l.set i x) = _
      rw [sc_cons, sc_cons, ih, show (i + 1) * 2 = i * 2 + 1 + 1 by omega]
      rfl
theorem row_set2 {w : World} {g : Nat} {cur : Array Value} {es : List Sg} (hg : w.heap[g]? = some (.cells cur 98 (0, 0))) (htk : cur.toList.take (es.length * 2) = segCells es) (i : Nat) (x : Sg) :
    ∃ cur', ((w.setCell ⟨g, i * 2, none⟩ (I x.1)).setCell ⟨g, i * 2 + 1, none⟩ (I x.2)).heap[g]? = some (.cells cur' 98 (0, 0)) ∧ cur'.size = cur.size ∧ cur'.toList.take ((es.set i x).length * 2) = segCells (es.set i x) := by
  have h1 := heap_setCell_at hg (i * 2) (I x.1)
  have h2 := heap_setCell_at h1 (i * 2 + 1) (I x.2)
  refine ⟨_, h2, by simp, ?_⟩
  rw [segCells_set, ← htk]
  simp [List.take_set]
theorem seg_at {w : World} {g : Nat} {cur : Array Value} {es : List Sg} (hg : w.heap[g]? = some (.cells cur 98 (0, 0))) (htk : cur.toList.take (es.length * 2) = segCells es) (i : Nat) (hi : i < es.length) :
    w.cell? ⟨g, i * 2, none⟩ = some (I es[i].1) ∧ w.cell? ⟨g, i * 2 + 1, none⟩ = some (I es[i].2) := by
  obtain ⟨q1, q2⟩ := segCells_at es i hi
  rw [← htk] at q1 q2
  rw [cell_at hg, cell_at hg]
  constructor
  · rw [← q1, List.getElem?_take_of_lt (by omega), Array.getElem?_toList]
  · rw [← q2, List.getElem?_take_of_lt (by omega), Array.getElem?_toList]
set_option maxHeartbeats 4000000 in
theorem sreverse_any (w : World) (segs : List Sg) (g c : Nat) (cur : Array Value) (hg : w.heap[g]? = some (.cells cur 98 (0, 0))) (hsz : segs.length * 2 ≤ cur.size) (htk : cur.toList.take (segs.length * 2) = segCells segs) (hs : segs.length ≤ 1000) :
    Calls Tryz.prog 88 #[.slice (some ⟨g, 0, none⟩) segs.length c] w fun e w' => e = .returned (.tuple #[]) ∧ (∃ cur', w'.heap[g]? = some (.cells cur' 98 (0, 0)) ∧ cur'.size = cur.size ∧ cur'.toList.take (segs.length * 2) = segCells segs.reverse) ∧ Kept [g] w w' := by
  have hsI : (segs.length : Int) ≤ 1000 := by omega
  obtain ⟨L, hL⟩ : ∃ L, segs.length = L := ⟨_, rfl⟩
  have H := Lib.hid (And.intro hg (And.intro hsz (And.intro htk (And.intro hs hL))))
  rw [hL] at hsI ⊢
  clear hg hsz htk hs hL
  go_enter Tryz.func88, Tryz.ntmps88
  go_wp2_with (fail)
  go_loopw [2, 3] (fun v2 v3 wr => ∃ (i : Nat) (cu : Array Value) (es : List Sg), v2 = I i ∧ v3 = I ((L : Int) - 1 - i) ∧ 2 * i ≤ L ∧ wr.heap[g]? = some (.cells cu 98 (0, 0)) ∧ cu.size = cur.size ∧ es.length = L ∧ cu.toList.take (L * 2) = segCells es ∧ (∀ k, k < L → es[k]? = if k < i ∨ L - 1 - i < k then segs[L - 1 - k]? else segs[k]?) ∧ Kept [g] w wr) (fun v2 _ _ => L - (intOf v2).toNat)
  case atStart =>
    obtain ⟨hg, hsz, htk, hs, hL⟩ := H.out
    exact ⟨0, cur, segs, rfl, by go_num, by omega, hg, rfl, hL, by rw [← hL]; exact htk, fun k hk => by rw [if_neg (by omega)], Kept.refl _ _⟩
  case round =>
    obtain ⟨i, cu, es, rfl, rfl, hi2, hgr, hcs, hel, htk, hes, kr⟩ := hrel
    by_cases hlt : (i : Int) < (L : Int) - 1 - i
    · obtain ⟨j, hj⟩ : ∃ j : Nat, (L : Int) - 1 - i = (j : Int) := ⟨L - 1 - i, by omega⟩
      have hil : i < es.length := by omega
      have hjl : j < es.length := by omega
      rw [hj] at hlt ⊢
      rw [← hel] at htk
      obtain ⟨a1, a2⟩ := seg_at hgr htk i hil
      obtain ⟨b1, b2⟩ := seg_at hgr htk j hjl
      obtain ⟨⟨x1, x2⟩, hx⟩ : ∃ x, es[i] = x := ⟨_, rfl⟩
      obtain ⟨⟨y1, y2⟩, hy⟩ : ∃ y, es[j] = y := ⟨_, rfl⟩
      rw [hx] at a1 a2
      rw [hy] at b1 b2
      obtain ⟨cu1, r1, r2, r3⟩ := row_set2 (es := es) hgr htk i (y1, y2)
      obtain ⟨cu2, r4, r5, r6⟩ := row_set2 r1 r3 j (x1, x2)
      have hfz : ∀ q, wr.frozen? ⟨g, q, none⟩ = false := free_at hgr
      have hsi : ∀ q, q < cu.size → (wr.cell? ⟨g, q, none⟩).isSome = true := fun q hq => by rw [cell_at hgr, Array.getElem?_eq_getElem hq]; rfl
      have hjL : (j : Int) < L := by omega
      have hiL : (i : Int) < L := by omega
      have hij : ¬ (j : Int) = i := by omega
      simp only at a1 a2 b1 b2
      have HX := Lib.hid (And.intro hx (And.intro hy (And.intro hj (And.intro hes (And.intro kr (And.intro hel (And.intro r4 (And.intro r5 (And.intro r6 (And.intro r2 hcs))))))))))
      clear hx hy hes kr r1 r2 r3 r4 r5 r6 hel hcs htk
      go_wp2_with (fail)
      go_region
      all_goals
        go_wp2
        go_roundw
        case rel =>
          obtain ⟨hx, hy, hj, hes, kr, hel, r4, r5, r6, r2, hcs⟩ := HX.out
          refine ⟨i + 1, cu2, (es.set i (y1, y2)).set j (x1, x2), by go_num, by congr 1; omega, by omega, r4, by rw [r5, r2, hcs], by simpa using hel, ?_, fun k hk => ?_, ?_⟩
          · have := r6
            simp only [List.length_set, hel] at this
            exact this
          · have hi0 := hes i (by omega)
            have hj0 := hes j (by omega)
            rw [List.getElem?_eq_getElem hil, hx, if_neg (by omega)] at hi0
            rw [List.getElem?_eq_getElem hjl, hy, if_neg (by omega)] at hj0
            rw [List.getElem?_set, List.getElem?_set]
            by_cases h1 : j = k
            · subst h1
              rw [if_pos rfl, if_pos (by simpa using hjl), if_pos (by omega), hi0]
              congr 1; omega
            · rw [if_neg h1]
              by_cases h2 : i = k
              · subst h2
                rw [if_pos rfl, if_pos hil, if_pos (by omega), hj0]
                congr 1; omega
              · rw [if_neg h2, hes k hk]
                by_cases h3 : k < i ∨ L - 1 - i < k
                · rw [if_pos h3, if_pos (by omega)]
                · rw [if_neg h3, if_neg (by omega)]
          · exact ((((kr.setCell (.inl (by simp)) _).setCell (.inl (by simp)) _).setCell (.inl (by simp)) _).setCell (.inl (by simp)) _).drew
        case measure => simp [intOf]; omega
    · have HX := Lib.hid (And.intro hes (And.intro kr (And.intro hel (And.intro hgr (And.intro hcs htk)))))
      have hi3 : L ≤ 2 * i + 1 := by omega
      clear hes kr hel hgr hcs htk
      go_wp2_with (fail)
      refine bodyPost_end (v := .tuple #[]) (by simp [results, Tryz.results88, go_sem]) rfl ?_
      obtain ⟨hes, kr, hel, hgr, hcs, htk⟩ := HX.out
      obtain ⟨_, _, _, hs, hL⟩ := H.out
      refine ⟨rfl, ⟨cu, hgr, hcs, ?_⟩, kr⟩
      rw [htk]
      congr 1
      apply List.ext_getElem?
      intro k
      by_cases hk : k < L
      · rw [hes k hk, List.getElem?_reverse (by omega), hL]
        split
        · rfl
        · congr 1; omega
      · rw [List.getElem?_eq_none (by omega), List.getElem?_eq_none (by simp; omega)]
end
section
set_option maxHeartbeats 8000000
set_option maxRecDepth 100000
theorem slice_own1 {b o len c q : Nat} (h : (Value.slice (some ⟨b, o, none⟩) len c).ownBlock = some q) : q = b := by simpa [Value.ownBlock, eq_comm] using h
/-! ### logs.Open -/
/-- The number of block k of a part that begins at block fs. -/
def nfF (bs : List UInt8) (fs k : Nat) : Nat := numF ((bs.drop (512 * fs + k * 512)).take 64)
def numsL (bs : List UInt8) (fs n i : Nat) : List Int := (List.range n).map fun k => if k < i then (nfF bs fs k : Int) else 0
theorem numsL_len (bs : List UInt8) (fs n i : Nat) : (numsL bs fs n i).length = n := by simp [numsL]
theorem numsL_at (bs : List UInt8) (fs n i k : Nat) (hk : k < n) : numAt (numsL bs fs n i) k = if k < i then (nfF bs fs k : Int) else 0 := by
  unfold numAt numsL
  rw [List.getD_eq_getElem?_getD, List.getElem?_map, List.getElem?_range hk]
  rfl
theorem numsL_zero (bs : List UInt8) (fs n : Nat) : numsL bs fs n 0 = List.replicate n 0 := by
  apply List.ext_getElem
  · simp [numsL]
  · intro i h1 h2; simp [numsL]
theorem numsL_set (bs : List UInt8) (fs n i : Nat) (hi : i < n) : (numsL bs fs n i).set i (nfF bs fs i : Int) = numsL bs fs n (i + 1) := by
  apply List.ext_getElem
  · simp [numsL]
  · intro k h1 h2
    rw [List.getElem_set]
    simp only [numsL, List.getElem_map, List.getElem_range]
    by_cases he : i = k
    · subst he; rw [if_pos rfl, if_pos (by omega)]
    · rw [if_neg he]
      by_cases hk : k < i
      · rw [if_pos hk, if_pos (by omega)]
      · rw [if_neg hk, if_neg (by omega)]
def LoPost (pb fb bb cb fs n : Nat) (w : World) (f : Fl) (segs : List Sg) (e : Ending) (w' : World) : Prop :=
  ∃ lb v, w.heap.size ≤ lb ∧ e = .returned (.tuple #[Ptr lb, I 0]) ∧ LgAt w' lb pb fb bb cb fs n v segs f false ∧ (∀ q, v.ownBlock = some q → w.heap.size ≤ q) ∧ Kept [] w w'
set_option maxHeartbeats 8000000 in
theorem lopen_any (w : World) (pb fb bb cb fs n : Nat) (f : Fl) (h : PtAt w pb fb bb cb fs n f) (hd : f.dead = false) (h4 : 4 ≤ n) (D : Nat) (l : List (List (List Ch))) (h1 : 1 ≤ l.length) (h2 : l.length ≤ n) (hD : D ≤ 1000000000) (hh : HeadsOK n D l.length (nfF f.bs fs)) :
    Calls Tryz.prog 65 #[Ptr pb] w (LoPost pb fb bb cb fs n w f (sgs n D l)) := by
  obtain ⟨lb, hlb⟩ : ∃ lb, w.heap.size = lb := ⟨_, rfl⟩
  obtain ⟨W, hW⟩ : ∃ W, w.alloc (.cells #[Ptr pb, .slice none 0 0, .bool false] 95) = W := ⟨_, rfl⟩
  have hk0 : Kept [] w W := by rw [← hW]; exact (Kept.refl _ _).alloc _
  have hsW : W.heap.size = lb + 1 := by rw [← hW, World.size_alloc, hlb]
  have hl0 : LgAt W lb pb fb bb cb fs n (.slice none 0 0) [] f false := by
    have hb : W.heap[lb]? = some (.cells #[Ptr pb, .slice none 0 0, .bool false] 95 (0, 0)) := by rw [← hW, ← hlb]; exact heap_new w _
    have := h.fl.lt
    have := h.fl.lt2
    have := h.fl.lt3
    have := lt_of_block h.blk
    exact ⟨hb, ⟨rfl, .inl ⟨rfl, rfl⟩⟩, h.same hk0, by omega, by omega, by omega, by omega⟩
  have H0 := Lib.hid (And.intro hl0 hk0)
  have HBL := Lib.hid (fun W (l : LgAt W lb pb fb bb cb fs n (.slice none 0 0) [] f false) => lblocks_any W lb pb fb bb cb fs n _ [] f false l)
  have hn256 : (n : Int) ≤ 256 := by have := h.bound.1; omega
  have hnI : (4 : Int) ≤ n := by omega
  have hnf : decide ((n : Int) < 4) = false := decide_eq_false (by omega)
  have HRD := Lib.hid (fun W' (k : Kept [] w W') b (hb : b < n) => pread_any W' pb fb bb cb fs n f (h.same k) hd (b * 512) 64 (by omega) (by omega))
  have HNB := Lib.hid (fun W' (b : Nat) (hb : b < n) => number_any W' ((f.bs.drop (512 * fs + b * 512)).take 64) (by rw [List.length_take, List.length_drop]; have := h.bound.2; omega))
  obtain ⟨L, hL⟩ : ∃ L, l.length = L := ⟨_, rfl⟩
  have HS := Lib.hid (backs_sgs (n := n) (D := D) l h1)
  rw [hL] at HS hh h1 h2
  have HHO := Lib.hid (And.intro hh (And.intro h1 (And.intro h2 (And.intro hD hL))))
  obtain ⟨nb, hnb⟩ : ∃ nb, W.heap.size = nb := ⟨_, rfl⟩
  obtain ⟨W1, hW1⟩ : ∃ W1, W.alloc (.cells (madeCells #[I 0] n) 3) = W1 := ⟨_, rfl⟩
  have hmk := run_make_row' (P := Tryz.prog) 65 3 (.int .i64 0) 8 Tryz.underlying65 int_info rfl .i64 .i64 n (by omega) (by omega) W
  have hk1 : Kept [] w W1 := by rw [← hW1]; exact hk0.alloc _
  have hn1 : Nums W1 nb (numsL f.bs fs n 0) := by
    unfold Nums
    rw [numsL_zero, ← madeI, ← hW1, ← hnb]
    exact heap_new W _
  have hkW : Kept [] W W1 := by rw [← hW1]; exact (Kept.refl _ _).alloc _
  have H1 := Lib.hid (And.intro (hl0.same hkW) (And.intro hn1 hk1))
  have HLB := Lib.hid (And.intro hlb (And.intro hsW hnb))
  clear h hd h4 hl0 hk0 hk1 hn1 hh h1 h2 hD hL hsW hkW
  go_enter Tryz.func65, Tryz.ntmps65
  go_upto_region 2 with (fail)
  clear hlb
  go_wp2_with (fail)
  refine (HBL.out _ H0.out.1).mono ?_
  rintro e w1 ⟨rfl, rfl⟩
  go_wp2_with (fail)
  refine (HBL.out _ H0.out.1).mono ?_
  rintro e w2 ⟨rfl, rfl⟩
  go_wp2_with (fail)
  go_loopw [6, 23] (fun v6 v23 wr => ∃ (i N : Nat), i ≤ n ∧ v23 = I i ∧ v6 = I N ∧ N < n ∧ (N < i ∨ (N = 0 ∧ i = 0)) ∧ (∀ k, k < i → nfF f.bs fs k ≤ nfF f.bs fs N) ∧ LgAt wr lb pb fb bb cb fs n (.slice none 0 0) [] f false ∧ Nums wr nb (numsL f.bs fs n i) ∧ Kept [] w wr) (fun _ v23 _ => n - (intOf v23).toNat)
  case atStart => exact ⟨0, 0, by omega, rfl, rfl, by omega, .inr ⟨rfl, rfl⟩, fun k hk => by omega, H1.out.1, H1.out.2.1, H1.out.2.2⟩
  case round =>
    obtain ⟨i, N, hi, rfl, rfl, hN, hNi, hmax, hl, hnm, kr⟩ := hrel
    have hNI : (N : Int) < n := by omega
    by_cases hlt : i < n
    · have hltI : (i : Int) < n := by omega
      have HR := Lib.hid (HRD.out wr kr i hlt)
      have HN := Lib.hid (fun W' => HNB.out W' i hlt)
      obtain ⟨SS, hSS⟩ : ∃ SS, (f.bs.drop (512 * fs + i * 512)).take 64 = SS := ⟨_, rfl⟩
      have hnfi : numF SS = nfF f.bs fs i := by unfold nfF; rw [hSS]
      rw [hSS] at HR
      rw [hSS, hnfi] at HN
      obtain ⟨N5, hN5⟩ : ∃ N5 : Nat, i * 512 = N5 := ⟨_, rfl⟩
      rw [hN5] at HR
      have hm5 : (i : Int) * 512 = N5 := by omega
      have hm6 : (N5 : Int) ≤ 131072 := by omega
      have hset := numsL_set f.bs fs n i hlt
      have hatN := numsL_at f.bs fs n (i + 1) N hN
      rw [if_pos (by omega)] at hatN
      have hlen := numsL_len f.bs fs n
      obtain ⟨x, hx⟩ : ∃ x, nfF f.bs fs i = x := ⟨_, rfl⟩
      obtain ⟨y, hy⟩ : ∃ y, nfF f.bs fs N = y := ⟨_, rfl⟩
      rw [hx] at HN hset
      rw [hy] at hatN hmax
      have HX := Lib.hid (And.intro hl (And.intro hnm (And.intro kr (And.intro hset (And.intro hatN (And.intro hlen (And.intro hx (And.intro hy (And.intro hmax hNi)))))))))
      clear hl hnm kr hset hatN hlen hx hy hmax hNi hSS hnfi hN5
      go_wp2_with (fail)
      refine HR.out.mono ?_
      rintro e w3 ⟨rfl, hw⟩
      replace hw := hw.symm
      subst hw
      go_wp2_with (fail)
      refine (HN.out _).mono ?_
      rintro e w3 ⟨rfl, k3⟩
      have hn3 : Nums w3 nb (numsL f.bs fs n i) := k3.at HX.out.2.1 (by simp)
      have hc1 := hn3.cell i (by rw [HX.out.2.2.2.2.2.1]; exact hlt)
      have hc2 := hn3.free i
      have hn4 := hn3.set i (x : Int)
      rw [HX.out.2.2.2.1] at hn4
      have hd1 := hn4.cell i (by rw [HX.out.2.2.2.2.2.1]; exact hlt)
      have hd2 := hn4.cell N (by rw [HX.out.2.2.2.2.2.1]; exact hN)
      rw [HX.out.2.2.2.2.1] at hd2
      rw [numsL_at _ _ _ _ _ hlt, if_pos (by omega), HX.out.2.2.2.2.2.2.1] at hd1
      have H4 := Lib.hid (And.intro hn4 k3)
      clear hn3 hn4 k3
      by_cases hgt : y < x
      · have hgI : (y : Int) < x := by omega
        have hgd : decide ((y : Int) < x) = true := decide_eq_true hgI
        have hgn : decide (y < x) = true := decide_eq_true (by omega)
        go_wp2_with (fail)
        go_quiet (fail)
        go_wp2_with (fail)
        go_roundw
        case rel =>
          obtain ⟨hl, hnm, kr, hset, hatN, hlen, hx, hy, hmax, hNi⟩ := HX.out
          obtain ⟨hn4, k3⟩ := H4.out
          have kk : Kept [nb] wr ((w3.setCell ⟨nb, i, none⟩ (I (x : Int))).drewN nq) := ((k3.mono (by simp) : Kept [nb] wr w3).setCell (.inl (by simp)) _).drewN _
          obtain ⟨hb1, hb2, hb3⟩ := HLB.out
          refine ⟨i + 1, i, by omega, by go_num, rfl, by omega, .inl (by omega), fun k hk => ?_, hl.kept kk (by simp; omega) (by have := hl.n1; simp; omega) (by have := hl.n2; simp; omega) (by have := hl.n3; simp; omega) (by have := hl.n4; simp; omega) (fun q hq => by cases hq), hn4, kr.new kk (fun z hz => by simp at hz; omega)⟩
          by_cases hki : k < i
          · have := hmax k hki; omega
          · have : k = i := by omega
            subst this; omega
        case measure => simp [intOf]; omega
      · have hgI : ¬ (y : Int) < x := by omega
        have hgd : decide ((y : Int) < x) = false := decide_eq_false hgI
        have hgn : decide (y < x) = false := decide_eq_false (by omega)
        go_wp2_with (fail)
        go_quiet (fail)
        go_wp2_with (fail)
        go_roundw
        case rel =>
          obtain ⟨hl, hnm, kr, hset, hatN, hlen, hx, hy, hmax, hNi⟩ := HX.out
          obtain ⟨hn4, k3⟩ := H4.out
          have kk : Kept [nb] wr ((w3.setCell ⟨nb, i, none⟩ (I (x : Int))).drewN nq) := ((k3.mono (by simp) : Kept [nb] wr w3).setCell (.inl (by simp)) _).drewN _
          obtain ⟨hb1, hb2, hb3⟩ := HLB.out
          refine ⟨i + 1, N, by omega, by go_num, rfl, by omega, .inl (by omega), fun k hk => ?_, hl.kept kk (by simp; omega) (by have := hl.n1; simp; omega) (by have := hl.n2; simp; omega) (by have := hl.n3; simp; omega) (by have := hl.n4; simp; omega) (fun q hq => by cases hq), hn4, kr.new kk (fun z hz => by simp at hz; omega)⟩
          by_cases hki : k < i
          · have := hmax k hki; omega
          · have : k = i := by omega
            subst this; omega
        case measure => simp [intOf]; omega
    · have hie : i = n := by omega
      obtain ⟨hh, h1, h2, hD, hL⟩ := HHO.out
      obtain ⟨e1, e2⟩ := hh.newest h1 h2 hN (fun k hk => hmax k (by omega))
      rw [← backB_zero h1] at e1
      have hnm2 : Nums wr nb (numsL f.bs fs n n) := by rw [hie] at hnm; exact hnm
      have hcN := hnm2.cell N (by rw [numsL_len]; exact hN)
      rw [numsL_at _ _ _ _ _ hN, if_pos hN, e2] at hcN
      obtain ⟨T, hT⟩ : ∃ T, D + L = T := ⟨_, rfl⟩
      rw [hT] at hcN
      have hT1 : (T : Int) ≤ 2000000000 := by omega
      have hT0 : ¬ (T : Int) = 0 := by omega
      have hTb : ((T : Int) == 0) = false := by simpa using hT0
      have hTd : decide ((140737488355328 : Int) < T) = false := decide_eq_false (by omega)
      have hTd2 : decide (140737488355328 < T) = false := decide_eq_false (by omega)
      have hiI : ¬ (i : Int) < n := by omega
      have hiN : ¬ i < n := hlt
      have HX := Lib.hid (And.intro hl (And.intro hnm2 (And.intro kr (And.intro hT e1))))
      clear hl hnm hnm2 kr hT e1 e2 hmax hNi hh h1 h2 hD hL hie hlt hi
      go_wp2_with (fail)
      go_quiet (fail)
      go_wp2_with (fail)
      obtain ⟨i0, hi0, hz0, hz1, hz2⟩ := info_parts seg_info
      have HI := Lib.hid (And.intro hi0 (And.intro hz0 (And.intro hz1 hz2)))
      clear hi0 hz0 hz1 hz2 hcN hT0 hTb hTd hTd2 hiI hiN
      have hLT : Hid (L ≤ n ∧ 1 ≤ L ∧ L ≤ T) := Lib.hid ⟨HHO.out.2.2.1, HHO.out.2.1, by have := HX.out.2.2.2.1; omega⟩
      go_loopw [10, 11] (fun v10 v11 wx => ∃ (t : Nat) (v : Value), t ≤ L ∧ v10 = I (backB n D L t) ∧ v11 = I ((T : Int) - t) ∧ LgAt wx lb pb fb bb cb fs n v (backs n D L t) f false ∧ (∀ q, v.ownBlock = some q → nb < q) ∧ Nums wx nb (numsL f.bs fs n n) ∧ Kept [] w wx) (fun _ v11 _ => (intOf v11).toNat)
      case atStart => exact ⟨0, .slice none 0 0, Nat.zero_le _, by rw [HX.out.2.2.2.2], by go_num, (HX.out.1).same ((Kept.refl [] wr).drewN nq), (fun q (hq : none = some q) => by cases hq), HX.out.2.1, HX.out.2.2.1.drewN nq⟩
      case round =>
        obtain ⟨t, v, ht, rfl, rfl, hl, hv, hnm, kx⟩ := hrel
        have hown := hl.own
        obtain ⟨pv, cv, rfl⟩ := own_form hown
        obtain ⟨c0, c1, c2⟩ := hl.cells
        rw [backs_len] at c1 hown
        simp only [backs_len] at hv
        have hf := hl.free
        have hBlt : backB n D L t < n := Nat.mod_lt _ (by omega)
        have hcB := hnm.cell (backB n D L t) (by rw [numsL_len]; exact hBlt)
        rw [numsL_at _ _ _ _ _ hBlt, if_pos hBlt] at hcB
        obtain ⟨B, hB⟩ : ∃ B, backB n D L t = B := ⟨_, rfl⟩
        by_cases htL : t < L
        · have hbk := HHO.out.1.back HHO.out.2.2.1 htL
          rw [hB, HX.out.2.2.2.1] at hbk
          rw [hB, hbk] at hcB
          have hnx := backB_next (D := D) (by omega : 0 < n) htL HHO.out.2.2.1
          rw [hB] at hnx
          obtain ⟨B', hB'⟩ : ∃ B', backB n D L (t + 1) = B' := ⟨_, rfl⟩
          rw [hB'] at hnx
          obtain ⟨M, hM⟩ : ∃ M, T - t = M := ⟨_, rfl⟩
          have hMI : (T : Int) - t = M := by have := hLT.out; omega
          rw [hM] at hcB
          have hM1 : (0 : Int) < M := by have := hLT.out; omega
          have hM2 : (M : Int) ≤ 2000000000 := by omega
          have htI : (t : Int) < n := by have := hLT.out; omega
          rw [hB] at hBlt
          have hBI : (B : Int) < n := by omega
          have hrem : ((B : Int) + n - 1) % n = B' := by have : ((B + n - 1 : Nat) : Int) % (n : Int) = ((B + n - 1) % n : Nat) := rfl
                                                         rw [hnx] at this; rw [← this]; congr 1; omega
          have hrem2 : ((B : Int) + n - 1).tmod n = B' := by rw [Int.tmod_eq_emod_of_nonneg (by omega)]; exact hrem
          have hnz : ¬ (n : Int) = 0 := by omega
          have hnzN : ¬ n = 0 := by omega
          have hbs := backs_succ (n := n) (D := D) (L := L) t
          rw [hB, HX.out.2.2.2.1, hM] at hbs
          have HY := Lib.hid (And.intro hl (And.intro hv (And.intro hnm (And.intro kx (And.intro hB' (And.intro hM (And.intro hbs (And.intro hB ht))))))))
          have HOW := Lib.hid hown
          clear hl hv hnm kx hB' hM hbs hbk hnx ht hown
          rw [hB, hMI]
          clear hB
          obtain ⟨hi0, hz0, hz1, hz2⟩ := HI.out
          go_wp2_with (first
            | (at_builtin
               refine wpList_append_lies _ rfl (.tmp 95) (.tmp 99) _ rfl (lb + 1) 98 i0 (.agg #[.int .i64 0, .int .i64 0]) 2 16 Tryz.underlying93 hi0 hz0 hz1 hz2 rfl (by decide) (.slice pv t cv) t (segCells (backs n D L t)) rfl (own_kept HOW.out ((Kept.refl [] wr).alloc _) (by simp)) ⟨wr.heap.size, 0, none⟩ 1 1 [I B, I M] rfl rfl (World.news_of_block (heap_new wr _)) (by intro u hu; simp at hu; rcases hu with rfl | rfl <;> rfl) (by omega) (by unfold maxLen; omega) (by omega) (by rw [World.size_alloc]; have := HY.out.1.lt; omega) _ rfl ?_
               intro g1 cap1 wa own1 gr1 hat1 hlt1
               have kg := kept_grown gr1
               have kw0 := (Kept.refl [] wr).alloc (Obj.cells #[I B, I M] 98)
               have hblk := kg.at (kw0.at HY.out.1.blk (by simp)) (by intro hm; have := (own_lt HOW.out lb (by simpa using hm)).1; omega)
               have d1 : wa.cell? ⟨lb, 1, none⟩ = some (.slice pv t cv) := by rw [cell_at hblk, backs_len]; rfl
               have df : ∀ i, wa.frozen? ⟨lb, i, none⟩ = false := free_at hblk
               have hp1 : PtAt wa pb fb bb cb fs n f := (HY.out.1.pt.same kw0).kept kg (by intro hm; have := (own_lt HOW.out pb (by simpa using hm)).1; have := HY.out.1.n1; omega) (by intro hm; have := (own_lt HOW.out fb (by simpa using hm)).1; have := HY.out.1.n2; omega) (by intro hm; have := (own_lt HOW.out bb (by simpa using hm)).1; have := HY.out.1.n3; omega) (by intro hm; have := (own_lt HOW.out cb (by simpa using hm)).1; have := HY.out.1.n4; omega)
               have hn1 : Nums wa nb (numsL f.bs fs n n) := kg.at (kw0.at HY.out.2.2.1 (by simp)) (by intro hm; have := HY.out.2.1 nb (by simpa using hm); omega)
               have HA := Lib.hid (And.intro own1 (And.intro kg (And.intro hblk (And.intro hp1 (And.intro hn1 (And.intro hat1 kw0))))))
               clear own1 gr1 hat1 hlt1 kg kw0 hblk hp1 hn1))
          go_roundw
          case rel =>
            obtain ⟨own1, kg, hblk, hp1, hn1, hat1, kw0⟩ := HA.out
            obtain ⟨hl, hv, hnm, kx, hB', hM, hbs, hB, ht⟩ := HY.out
            have hkk := HLB.out
            have hsc : segCells (backs n D L t) ++ [I B, I M] = segCells (backs n D L (t + 1)) := by rw [hbs]; simp [segCells]
            rw [hsc] at own1
            have kfin : Kept [lb] wa (wa.setCell ⟨lb, 1, none⟩ (.slice (some ⟨g1, 0, none⟩) (t + 1) cap1)) := (Kept.refl _ _).setCell (.inl (by simp)) _
            have hg1 : lb + 1 < g1 := by
              rcases hat1 with h | h
              · have := hv g1 (by simpa using h); omega
              · have := lt_of_block hnm
                rw [h, World.size_alloc]
                omega
            refine ⟨t + 1, .slice (some ⟨g1, 0, none⟩) (t + 1) cap1, by omega, by rw [hB'], by congr 1; omega, ⟨heap_setCell_at hblk 1 _, ?_, hp1.kept kfin (by have := hl.n1; simp; omega) (by have := hl.n2; simp; omega) (by have := hl.n3; simp; omega) (by have := hl.n4; simp; omega), hl.n1, hl.n2, hl.n3, hl.n4⟩, fun q hq => by have := slice_own1 hq; omega, kfin.at hn1 (by simp; omega), ?_⟩
            · rw [backs_len]
              exact own_kept own1 kfin (fun q hq hm => by have := slice_own1 hq; simp at hm; omega)
            · have hlw := hkk.1
              refine (kx.trans' kw0).new (S' := lb :: (Value.slice pv t cv).ownBlock.toList) (((kg.mono (fun x hx => List.mem_cons_of_mem _ hx))).trans' (kfin.mono (fun x hx => by simp at hx; simp [hx]))) (fun x hx => ?_)
              rcases List.mem_cons.1 hx with rfl | hx
              · omega
              · have := hv x (by simpa using hx); omega
          case measure => simp [intOf]; omega
        · have htL2 : t = L := by omega
          obtain ⟨hlenX, hor⟩ := hown
          obtain ⟨g, cap, cur, hev, hbg, hg, hcap, hmax2, hsz, hex⟩ : ∃ g cap cur, Value.slice pv t cv = .slice (some ⟨g, 0, none⟩) t cap ∧ lb + 1 ≤ g ∧ wr.heap[g]? = some (.cells cur 98 (0, 0)) ∧ t ≤ cap ∧ cap ≤ maxLen ∧ cur.size = cap * 2 ∧ cur.toList.take (t * 2) = segCells (backs n D L t) := by
            rcases hor with ⟨_, h0⟩ | h
            · have := hLT.out; omega
            · exact h
          cases hev
          have hM : (T : Int) - t = D := by have := HX.out.2.2.2.1; omega
          have HRV := Lib.hid (sreverse_any wr (backs n D L t) g cv cur hg (by rw [backs_len, hsz]; omega) (by rw [backs_len]; exact hex) (by rw [backs_len]; have := hLT.out; omega))
          rw [backs_len] at HRV
          have HFIN : Hid (∀ w5 cur', w5.heap[g]? = some (.cells cur' 98 (0, 0)) → cur'.size = cur.size → cur'.toList.take (t * 2) = segCells (backs n D L t).reverse → Kept [g] wr w5 → LoPost pb fb bb cb fs n w f (sgs n D l) (.returned (.tuple #[Ptr lb, I 0])) w5) := Lib.hid (fun w5 cur' r1 r2 r3 k5 => by
            obtain ⟨hb1, hb2, hb3⟩ := HLB.out
            have hS : (backs n D L t).reverse = sgs n D l := by rw [htL2]; exact HS.out
            have hln : (sgs n D l).length = t := by rw [sgs_len, HHO.out.2.2.2.2]; omega
            rw [hS] at r3
            have hgx := hv g rfl
            refine ⟨lb, _, by omega, rfl, ⟨k5.at (by have := hl.blk; rw [backs_len] at this; exact this) (by simp; omega), ⟨by rw [segCells_len], .inr ⟨g, cv, cur', by rw [hln], hbg, r1, by rw [hln]; exact hcap, hmax2, by rw [r2, hsz], by rw [hln]; exact r3⟩⟩, hl.pt.kept k5 (by have := hl.n1; simp; omega) (by have := hl.n2; simp; omega) (by have := hl.n3; simp; omega) (by have := hl.n4; simp; omega), hl.n1, hl.n2, hl.n3, hl.n4⟩, fun q hq => by have := slice_own1 hq; omega, kx.new k5 (fun z hz => by simp at hz; omega)⟩)
          have htN : (t : Int) = L := by omega
          have HT := Lib.hid (And.intro hl.blk (And.intro htL2 hmax2))
          rw [hM]
          by_cases hD0 : D = 0
          · have hDI : ¬ (0 : Int) < (D : Int) := by omega
            have hDd : decide ((0 : Int) < (D : Int)) = false := decide_eq_false hDI
            have hDn : decide (0 < D) = false := decide_eq_false (by omega)
            clear hl hv hnm kx hor hlenX hg hcap hmax2 hsz hex ht hM hB htL htL2 htN hD0 hcB hBlt
            go_wp2_with (fail)
            refine (HRV.out).mono ?_
            rintro e w5 ⟨rfl, ⟨cur', r1, r2, r3⟩, k5⟩
            have H5 := Lib.hid (And.intro r1 (And.intro r2 (And.intro r3 k5)))
            clear r1 r2 r3 k5
            go_wp2_with (fail)
            go_ret2
            exact HFIN.out _ cur' H5.out.1 H5.out.2.1 H5.out.2.2.1 H5.out.2.2.2
          · have hstop := HHO.out.1.stop HHO.out.2.1 HHO.out.2.2.1 (by omega)
            have hB2 : backB n D L L = B := by rw [← hB, htL2]
            rw [hB2] at hstop
            clear hB2
            rw [hB] at hcB hBlt ⊢
            obtain ⟨z, hz⟩ : ∃ z, nfF f.bs fs B = z := ⟨_, rfl⟩
            rw [hz] at hcB hstop
            have hDI : (0 : Int) < (D : Int) := by omega
            have hzI : ¬ (z : Int) = D := by omega
            have hzb : ((z : Int) == D) = false := by simpa using hzI
            have hzn : (z == D) = false := by simpa using hstop
            have hBI : (B : Int) < n := by omega
            clear hl hv hnm kx hor hlenX hg hcap hmax2 hsz hex ht hM hB htL htL2 htN hD0 hz
            go_wp2_with (fail)
            refine (HRV.out).mono ?_
            rintro e w5 ⟨rfl, ⟨cur', r1, r2, r3⟩, k5⟩
            have H5 := Lib.hid (And.intro r1 (And.intro r2 (And.intro r3 k5)))
            clear r1 r2 r3 k5
            go_wp2_with (fail)
            go_ret2
            exact HFIN.out _ cur' H5.out.1 H5.out.2.1 H5.out.2.2.1 H5.out.2.2.2
/-! ### The replay's weights and counts, pure -/
theorem chW_le (c : Ch) : 7 * chW c ≤ (chB c).length := by
  have h := chB_len c
  unfold chW wF pagesF
  cases hd : c.drop with
  | true => simp
  | false =>
    rw [hd] at h
    simp only [Bool.false_eq_true, if_false] at h ⊢
    split <;> omega
theorem sumC_le (l : List Ch) : 7 * sumC l ≤ (recF l).length := by
  induction l with
  | nil => exact Nat.zero_le _
  | cons c l ih =>
    have := chW_le c
    rw [recF_cons, List.length_append]
    simp only [sumC]
    omega
theorem rec_le (l : List Ch) : (recF l).length ≤ 63 * pgs l := by unfold pgs pagesF; split <;> omega
theorem sumC_pgs (l : List Ch) : sumC l ≤ 9 * pgs l := by have := sumC_le l; have := rec_le l; omega
theorem takes_sum_le (s a : Nat) (l : List Ch) : ∀ {M : OM}, SortedA M → sumA wO (takesF M l s a) ≤ sumA wO M + sumC l := by
  induction l with
  | nil => intro M h; exact Nat.le_refl _
  | cons c l ih =>
    intro M h
    have h1 := take1_sum wO h s a c
    have h2 := ih (take1_sorted h s a c)
    show sumA wO (takesF (take1 s a M c) l s a) ≤ _
    have e : (if c.drop then 0 else wO ⟨c.val, s, a⟩) = chW c := rfl
    rw [e] at h1
    simp only [sumC]
    omega
theorem repR_sum (num : Nat) : ∀ (rs : List (List Ch)) (i : Nat) {M : OM}, SortedA M → sumA wO (repR num rs i M) ≤ sumA wO M + 9 * usedS rs
  | [], i, M, h => Nat.le_add_right _ _
  | l :: rs, i, M, h => by
    have h1 := takes_sum_le num i l h
    have h2 := sumC_pgs l
    have h3 := repR_sum num rs (i + 1) (takes_sorted num i l h)
    show sumA wO (repR num rs (i + 1) (takesF M l num i)) ≤ _
    simp only [usedS]
    omega
theorem repS_sum : ∀ (t : List (List (List Ch))) (num : Nat) {M : OM}, SortedA M → (∀ rs ∈ t, usedS rs ≤ 7) → sumA wO (repS num t M) ≤ sumA wO M + 63 * t.length
  | [], num, M, h, _ => Nat.le_add_right _ _
  | rs :: t, num, M, h, hu => by
    have h1 := repR_sum num rs 0 h
    have h2 := repS_sum t (num + 1) (M := repR num rs 0 M) (repR_sorted _ _ _ _ h) (fun r hr => hu r (List.mem_cons_of_mem _ hr))
    have h3 := hu rs List.mem_cons_self
    show sumA wO (repS (num + 1) t (repR num rs 0 M)) ≤ _
    rw [List.length_cons]
    omega
theorem takes_vals (s a : Nat) (l : List Ch) (hl : ∀ c ∈ l, c.val.length ≤ 256) : ∀ {M : OM}, SortedA M → Vals256 M → Vals256 (takesF M l s a) := by
  induction l with
  | nil => intro M _ h; exact h
  | cons c l ih =>
    intro M hs h
    exact ih (fun x hx => hl x (List.mem_cons_of_mem _ hx)) (take1_sorted hs s a c) (vals_take1 hs h s a c (hl c List.mem_cons_self))
theorem repR_vals (num : Nat) : ∀ (rs : List (List Ch)) (i : Nat) {M : OM}, (∀ l ∈ rs, ∀ c ∈ l, c.val.length ≤ 256) → SortedA M → Vals256 M → Vals256 (repR num rs i M)
  | [], i, M, _, _, h => h
  | l :: rs, i, M, hl, hs, h => repR_vals num rs (i + 1) (fun r hr => hl r (List.mem_cons_of_mem _ hr)) (takes_sorted num i l hs) (takes_vals num i l (hl l List.mem_cons_self) hs h)
/-- The counts behind j segments and i records of the next one. -/
structure CtPart (D L : Nat) (segs : List (List (List Ch))) (j i : Nat) (C : List (Int × Nat)) : Prop where
  done : ∀ a rs, a < j → segs[a]? = some rs → (findA C ((D + a + 1 : Nat) : Int)).getD 0 = rs.length
  now : (findA C ((D + j + 1 : Nat) : Int)).getD 0 = i
  late : ∀ a, j < a → findA C ((D + a + 1 : Nat) : Int) = none
  out : ∀ k : Int, (k ≤ D ∨ ((D + L : Nat) : Int) < k) → findA C k = none
theorem CtPart.zero (D L : Nat) (segs : List (List (List Ch))) : CtPart D L segs 0 0 [] := ⟨fun a rs h => by omega, rfl, fun _ _ => rfl, fun _ _ => rfl⟩
theorem CtPart.step {D L : Nat} {segs : List (List (List Ch))} {j i : Nat} {C : List (Int × Nat)} (h : CtPart D L segs j i C) (hs : SortedA C) (hj : j < L) : CtPart D L segs j (i + 1) (insA (delA C ((D + j + 1 : Nat) : Int)) ((D + j + 1 : Nat) : Int) (i + 1)) := by
  have hf : ∀ (k q : Int) (x : Nat), findA (insA (delA C k) k x) q = if q = k then some x else findA C q := by
    intro k q x
    rw [find_ins _ _ _ (by rw [find_del hs, if_pos rfl]), find_del hs]
    by_cases hq : q = k
    · rw [if_pos hq, if_pos hq]
    · rw [if_neg hq, if_neg hq, if_neg hq]
  refine ⟨fun a rs ha hr => ?_, ?_, fun a ha => ?_, fun k hk => ?_⟩
  · rw [hf, if_neg (by omega)]; exact h.done a rs ha hr
  · rw [hf, if_pos rfl]; rfl
  · rw [hf, if_neg (by omega)]; exact h.late a ha
  · rw [hf, if_neg (by omega)]; exact h.out k hk
theorem CtPart.next {D L : Nat} {segs : List (List (List Ch))} {j : Nat} {C : List (Int × Nat)} {rs : List (List Ch)} (hr : segs[j]? = some rs) (h : CtPart D L segs j rs.length C) : CtPart D L segs (j + 1) 0 C := by
  refine ⟨fun a r ha hra => ?_, ?_, fun a ha => h.late a (by omega), h.out⟩
  · by_cases e : a = j
    · subst e; rw [hr] at hra; cases hra; exact h.now
    · exact h.done a r (by omega) hra
  · rw [h.late (j + 1) (by omega)]; rfl
theorem CtPart.few {D L : Nat} {segs : List (List (List Ch))} {j i : Nat} {C : List (Int × Nat)} (h : CtPart D L segs j i C) (hs : SortedA C) : C.length ≤ L := by
  refine sorted_few C (D + 1) L hs fun p hp => ?_
  have hf := find_of_mem hs (k := p.1) (o := p.2) hp
  apply Classical.byContradiction
  intro hn
  rw [h.out p.1 (by omega)] at hf
  cases hf
theorem CtPart.all {st : St} {C : List (Int × Nat)} (h : CtPart st.D st.segs.length st.segs st.segs.length 0 C) : CtOK st C :=
  ⟨fun j rs hj => h.done j rs (List.getElem?_eq_some_iff.1 hj).1 hj, h.out⟩
theorem repS_take (num : Nat) (l : List (List (List Ch))) (M : OM) (j : Nat) (rs : List (List Ch)) (h : l[j]? = some rs) : repS num (l.take (j + 1)) M = repR (num + j) rs 0 (repS num (l.take j) M) := by
  have hlt := (List.getElem?_eq_some_iff.1 h).1
  rw [List.take_add_one, h]
  show repS num (l.take j ++ [rs]) M = _
  rw [repS_snoc, List.length_take, Nat.min_eq_left (by omega)]
theorem repR_take (num : Nat) (rs : List (List Ch)) (M : OM) (i : Nat) (l : List Ch) (h : rs[i]? = some l) : repR num (rs.take (i + 1)) 0 M = takesF (repR num (rs.take i) 0 M) l num i := by
  have hlt := (List.getElem?_eq_some_iff.1 h).1
  rw [List.take_add_one, h]
  show repR num (rs.take i ++ [l]) 0 M = _
  rw [repR_snoc, List.length_take, Nat.min_eq_left (by omega), Nat.zero_add]
theorem usedS_take (rs : List (List Ch)) : ∀ i, usedS (rs.take i) ≤ usedS rs := by
  induction rs with
  | nil => intro i; simp
  | cons x rs ih =>
    intro i
    cases i with
    | zero => simp [usedS]
    | succ i => have := ih i; simp only [List.take_succ_cons, usedS]; omega
/-! ### Heads of the blocks of a store -/
theorem drop_block (bs : List UInt8) (fs k : Nat) : (bs.drop (512 * fs + k * 512)).take 64 = (blockOf bs (fs + k)).take 64 := by
  unfold blockOf
  rw [List.take_take, show 512 * (fs + k) = 512 * fs + k * 512 by omega, Nat.min_eq_left (by omega)]
theorem heads_ok {n : Nat} {f : Fl} {st : St} (hn : 0 < n) (h : FlOK n f st) (hD : st.D + n ≤ 100000000000000) : HeadsOK n st.D st.segs.length (nfF f.bs 1) := by
  intro j hj
  have hb := h j hj
  unfold nfF
  rw [drop_block, hb]
  cases hs : st.segs[j]? with
  | none =>
    rw [if_neg (by have := List.getElem?_eq_none_iff.1 hs; omega)]
    exact full_num
  | some rs =>
    rw [if_pos (List.getElem?_eq_some_iff.1 hs).1]
    show numF ((segB (st.D + j + 1) (rs.map recF)).take 64) = _
    unfold segB segP
    rw [List.append_assoc]
    exact head_num _ (by omega) (by have : (256 : Nat) ^ 6 = 281474976710656 := by decide
                                    omega) _
end
section
set_option maxHeartbeats 8000000
set_option maxRecDepth 100000
/-! ### objs.Open -/
theorem form_zero (l : List Ch) : ∀ (last : Int), RisesC l → (∀ c ∈ l, last < c.key ∧ 1 ≤ c.key ∧ c.key ≤ 2147483647 ∧ c.val.length ≤ 256 ∧ (c.drop = true → c.val = [])) → formG last l = 0 := by
  induction l with
  | nil => intro last _ _; rfl
  | cons c l ih =>
    intro last hr h
    obtain ⟨h1, h2⟩ := List.pairwise_cons.1 hr
    obtain ⟨a1, a2, a3, a4, a5⟩ := h c List.mem_cons_self
    unfold formG
    rw [if_neg (by omega), if_neg (by
      rintro (q | ⟨q1, q2⟩)
      · omega
      · exact q2 (a5 q1))]
    exact ih c.key h2 (fun d hd => ⟨h1 d hd, (h d (List.mem_cons_of_mem _ hd)).2⟩)
theorem formC_zero {l : List Ch} (h : FormC l) : formF l = 0 := form_zero l 0 h.1 (fun c hc => ⟨by have := (h.2.1 c hc).1; omega, h.2.1 c hc⟩)
theorem formC_len {l : List Ch} (h : FormC l) : l.length ≤ 400 := by
  have : ∀ l : List Ch, l.length ≤ (recF l).length := fun l => by
    induction l with
    | nil => simp
    | cons c l ih =>
      rw [recF_cons, List.length_append, List.length_cons]
      have := chB_len c
      split at this <;> omega
  have := this l
  have := h.2.2
  omega
def SOpen (w : World) (pb fb bb cb n : Nat) (st : St) (f : Fl) (e : Ending) (w' : World) : Prop :=
  ∃ sb lb mb kb v, e = .returned (.tuple #[Ptr sb, I 0]) ∧ SAt w' sb lb pb fb bb cb mb kb n v st f ∧ w.heap.size ≤ sb ∧ w.heap.size ≤ lb ∧ w.heap.size ≤ mb ∧ w.heap.size ≤ kb ∧ (∀ q, v.ownBlock = some q → w.heap.size ≤ q) ∧ Kept [] w w'
set_option maxHeartbeats 8000000 in
theorem oopen_any (w : World) (pb fb bb cb n : Nat) (f : Fl) (st : St) (h : PtAt w pb fb bb cb 1 n f) (hd : f.dead = false) (ha : f.armed = 0) (h8 : 8 ≤ n) (hF : FlOK n f st) (hI : InvS n st) (hfree : st.init.length + 2 ≤ n) (hq : sumA wO st.M ≤ quotaF n) (hD : st.D ≤ 900000000) :
    Calls Tryz.prog 35 #[Ptr pb] w (SOpen w pb fb bb cb n st f) := by
  have HS := Lib.hid (size_any w pb fb bb cb 1 n f h)
  have hb := h.bound
  have hsl := segs_len st
  have HL := Lib.hid (lopen_any w pb fb bb cb 1 n f h hd (by omega) st.D st.segs (by omega) (by omega) (by omega) (heads_ok (by omega) hF (by omega)))
  obtain ⟨L, hL⟩ : ∃ L, st.segs.length = L := ⟨_, rfl⟩
  have hLn : L + 1 ≤ n := by omega
  have hsg : (sgs n st.D st.segs).length = L := by rw [sgs_len, hL]
  have HFR := Lib.hid (fun W lb v (l : LgAt W lb pb fb bb cb 1 n v (sgs n st.D st.segs) f false) => by
    have := free_any W lb pb fb bb cb 1 n v _ f false l (by rw [hsg]; omega)
    rw [hsg] at this
    exact this)
  have HSG := Lib.hid (fun W lb v (l : LgAt W lb pb fb bb cb 1 n v (sgs n st.D st.segs) f false) => by
    have := segs_any W lb pb fb bb cb 1 n v _ f false l (by intro he; rw [he] at hsg; simp at hsg; omega) (by rw [hsg]; omega)
    rw [hsg] at this
    exact this)
  have HRC := Lib.hid (fun W lb v (l : LgAt W lb pb fb bb cb 1 n v (sgs n st.D st.segs) f false) j rs (hj : st.segs[j]? = some rs) => by
    have hjl := (List.getElem?_eq_some_iff.1 hj).1
    have hjs : j < (sgs n st.D st.segs).length := by omega
    have hat := sgs_at n st.segs st.D j hjs
    have hrs := hI.recs rs (List.mem_of_getElem? hj)
    have := records_any W lb pb fb bb cb 1 n v (sgs n st.D st.segs) f l (by rw [hsg]; omega) hd j hjs (by rw [hat]; exact Nat.mod_lt _ (by omega)) (fun i hi => by rw [sgs_at, hat]; simp; omega) (rs.map recF) (recs400 hI (List.mem_of_getElem? hj)) (by rw [usedS_eq]; exact hrs.1) (by rw [hat]; have := hF j (by omega); rw [hj] at this; exact this)
    rw [hat, List.length_map] at this
    exact this)
  obtain ⟨N, hN⟩ : ∃ N : Nat, n * 512 = N := ⟨_, rfl⟩
  rw [hN] at HS
  have hNI : ¬ (N : Int) < 4096 := by omega
  have hnL : ¬ (n : Int) - L = 0 := by omega
  have hnL2 : ((n : Int) - L == 0) = false := by simpa using hnL
  have hnI : (n : Int) ≤ 256 := by omega
  have hLI : (L : Int) ≤ n := by omega
  have HH := Lib.hid (And.intro h (And.intro hd (And.intro ha (And.intro h8 (And.intro hF (And.intro hI (And.intro hfree (And.intro hq (And.intro hD (And.intro hL (And.intro hLn hb.1)))))))))))
  clear h hd ha h8 hF hI hfree hq hD hb hsl hsg hN hLn hL
  go_enter Tryz.func35, Tryz.ntmps35
  go_wp2_with (fail)
  refine HS.out.mono ?_
  rintro e w1 ⟨rfl, rfl⟩
  go_wp2_with (fail)
  refine HL.out.mono ?_
  rintro e w2 ⟨lb, v, hlb, rfl, hlg, hv, k2⟩
  have H2 := Lib.hid (And.intro hlb (And.intro hlg (And.intro hv k2)))
  clear hlb hlg hv k2
  go_wp2_with (fail)
  refine (HFR.out w2 lb v H2.out.2.1).mono ?_
  rintro e w3 ⟨rfl, k3⟩
  have H3 := Lib.hid (And.intro (H2.out.2.1.same k3) (H2.out.2.2.2.trans' k3))
  have hs3 := k3.size
  have HS3 := Lib.hid hs3
  clear k3 hs3
  have m1 : (Instr.makeMap 58 none).run Tryz.prog w3 = .ok (.map (some w3.heap.size)) (w3.alloc (.map #[] 0)) := rfl
  have m2 : (Instr.makeMap 59 none).run Tryz.prog (w3.alloc (.map #[] 0)) = .ok (.map (some (w3.heap.size + 1))) ((w3.alloc (.map #[] 0)).alloc (.map #[] 0)) := by rw [← World.size_alloc]; rfl
  obtain ⟨W1, hW1⟩ : ∃ W1, w3.alloc (.map #[] 0) = W1 := ⟨_, rfl⟩
  have s1 : W1.heap.size = w3.heap.size + 1 := by rw [← hW1, World.size_alloc]
  have o1 : ObAt W1 w3.heap.size [] := by rw [← hW1]; exact amap_made w3
  have kA : Kept [] w3 W1 := by rw [← hW1]; exact (Kept.refl [] w3).alloc _
  obtain ⟨W2, hW2⟩ : ∃ W2, W1.alloc (.map #[] 0) = W2 := ⟨_, rfl⟩
  have s2 : W2.heap.size = w3.heap.size + 2 := by rw [← hW2, World.size_alloc, s1]
  have o2 : CtAt W2 (w3.heap.size + 1) [] := by rw [← hW2, ← s1]; exact amap_made W1
  have kB : Kept [] W1 W2 := by rw [← hW2]; exact (Kept.refl [] W1).alloc _
  obtain ⟨W3, hW3⟩ : ∃ W3, W2.alloc (.cells #[Ptr pb, Ptr lb, .map (some w3.heap.size), .map (some (w3.heap.size + 1)), I 0, .bool false] 61) = W3 := ⟨_, rfl⟩
  have hb3 : W3.heap[w3.heap.size + 2]? = some (.cells #[Ptr pb, Ptr lb, .map (some w3.heap.size), .map (some (w3.heap.size + 1)), I 0, .bool false] 61 (0, 0)) := by rw [← hW3, ← s2]; exact heap_new W2 _
  have kC : Kept [] W2 W3 := by rw [← hW3]; exact (Kept.refl [] W2).alloc _
  obtain ⟨mb, hmb⟩ : ∃ mb, w3.heap.size = mb := ⟨_, rfl⟩
  rw [hmb] at o1 o2 hb3 m1 m2 s1 s2
  rw [hW1] at m1 m2
  rw [hW2] at m2
  have hcore : CoreAt W3 (mb + 2) pb lb mb (mb + 1) (sumA wO ([] : OM)) [] [] := ⟨hb3, o1.same (kB.trans' kC), o2.same kC, by omega, by omega, by omega⟩
  have HC3 := Lib.hid (And.intro hcore (And.intro (H3.out.1.same ((kA.trans' kB).trans' kC)) (And.intro (H3.out.2.trans' ((kA.trans' kB).trans' kC)) (And.intro hmb s2))))
  clear hcore o1 o2 hb3 kA kB kC s1
  go_wp2_with (fail)
  rw [show W2.alloc (Obj.cells #[Ptr pb, Ptr lb, .map (some mb), .map (some (mb + 1)), .int .i64 0, .bool false] 61) = W3 from by rw [← hW3, hmb]]
  refine (HSG.out W3 lb v HC3.out.2.1).mono ?_
  rintro e w4 ⟨vs, rfl, own4, k4⟩
  obtain ⟨gs, cs, rfl, hgs, hcs⟩ := row_cells1 own4 (by have := HH.out.2.2.2.2.2.2.2.2.2.1; have := segs_len st; omega)
  have hrow : ∀ j, j < L → w4.cell? ⟨gs, j, none⟩ = some (I (st.D + j + 1 : Nat)) := by
    intro j hj
    rw [hcs j hj, sgs_nums, HH.out.2.2.2.2.2.2.2.2.2.1, List.getElem?_map, List.getElem?_map, List.getElem?_range hj]
    rfl
  have hgs2 : mb + 3 < gs := by
    have : W3.heap.size = mb + 3 := by rw [← hW3, World.size_alloc]; omega
    omega
  have H4 := Lib.hid (And.intro (HC3.out.1.same k4) (And.intro (HC3.out.2.1.same k4) (And.intro (HC3.out.2.2.1.trans' k4) (And.intro hrow (And.intro hgs2 (lt_of_block HC3.out.1.blk))))))
  clear own4 hcs k4 hrow hgs2 m1 m2 hW1 hW2 hW3 s2 hmb HSG
  go_wp2_with (fail)
  go_loopw [46] (fun v46 wr => ∃ (j : Nat) (C : List (Int × Nat)), j ≤ L ∧ v46 = I j ∧ CoreAt wr (mb + 2) pb lb mb (mb + 1) (sumA wO (repS (st.D + 1) (st.segs.take j) [])) (repS (st.D + 1) (st.segs.take j) []) C ∧ CtPart st.D L st.segs j 0 C ∧ Kept [mb + 2, mb, mb + 1] w4 wr) (fun v46 _ => L - (intOf v46).toNat)
  case atStart => exact ⟨0, [], Nat.zero_le _, rfl, H4.out.1, CtPart.zero _ _ _, Kept.refl _ _⟩
  case round =>
    obtain ⟨j, C, hj, rfl, hcore, hct, kr⟩ := hrel
    have hlo : mb + 2 < w4.heap.size ∧ lb < mb := by
      have h1 := H4.out.2.2.2.2.2
      have h2 := H3.out.1.lt
      have h3 := HC3.out.2.2.2.1
      have := H4.out.1.lt
      omega
    have hlg : LgAt wr lb pb fb bb cb 1 n v (sgs n st.D st.segs) f false := by
      have hl := H4.out.2.1
      have h3 := H3.out.1
      have h4 := HC3.out.2.2.2.1
      refine hl.kept kr (by simp; omega) (by have := hl.n1; simp; omega) (by have := hl.n2; simp; omega) (by have := hl.n3; simp; omega) (by have := hl.n4; simp; omega) (fun q hq hm => ?_)
      have := (own_lt h3.own q hq).2
      simp at hm
      omega
    by_cases hlt : j < L
    · have hltI : (j : Int) < L := by omega
      obtain ⟨rs, hrs⟩ : ∃ rs, st.segs[j]? = some rs := ⟨_, List.getElem?_eq_getElem (by have := HH.out.2.2.2.2.2.2.2.2.2.1; omega)⟩
      have hc9 := (kr.cell (p := ⟨gs, j, none⟩) (World.block_lt_of_cell? w4 _ (H4.out.2.2.2.1 j hlt)) (by have := H4.out.2.2.2.2.1; simp; omega)).trans (H4.out.2.2.2.1 j hlt)
      have HR := Lib.hid (HRC.out wr lb v hlg j rs hrs)
      obtain ⟨SN, hSN⟩ : ∃ SN, st.D + j + 1 = SN := ⟨_, rfl⟩
      have hrs7 := HH.out.2.2.2.2.2.1.recs rs (List.mem_of_getElem? hrs)
      have hrl : rs.length ≤ 7 := by
        have : ∀ rs : List (List Ch), rs.length ≤ usedS rs := fun rs => by
          induction rs with
          | nil => exact Nat.le_refl _
          | cons x t ih => have := pgs_pos x; simp only [List.length_cons, usedS]; omega
        have := this rs
        omega
      obtain ⟨Mj, hMj⟩ : ∃ Mj, repS (st.D + 1) (st.segs.take j) [] = Mj := ⟨_, rfl⟩
      have hMnext : repS (st.D + 1) (st.segs.take (j + 1)) [] = repR SN rs 0 Mj := by rw [repS_take _ _ _ j rs hrs, hMj, show st.D + 1 + j = SN by omega]
      have hMs : SortedA Mj := by rw [← hMj]; exact repS_sorted _ _ _ List.Pairwise.nil
      have hMv : Vals256 Mj := by
        have : ∀ (t : List (List (List Ch))) (num : Nat) (M : OM), (∀ r ∈ t, ∀ l ∈ r, ∀ c ∈ l, c.val.length ≤ 256) → SortedA M → Vals256 M → Vals256 (repS num t M) := fun t => by
          induction t with
          | nil => intro num M _ _ h; exact h
          | cons r t ih => intro num M h1 h2 h3; exact ih (num + 1) _ (fun x hx => h1 x (List.mem_cons_of_mem _ hx)) (repR_sorted _ _ _ _ h2) (repR_vals num r 0 (h1 r List.mem_cons_self) h2 h3)
        rw [← hMj]
        refine this _ _ _ (fun r hr l hl c hc => ?_) List.Pairwise.nil (fun k o ho => by cases ho)
        exact (((HH.out.2.2.2.2.2.1.recs r (List.mem_of_mem_take hr)).2 l hl).2.1 c hc).2.2.1
      have hMw : sumA wO Mj ≤ 63 * 256 := by
        rw [← hMj]
        have := repS_sum (st.segs.take j) (st.D + 1) (M := []) List.Pairwise.nil (fun r hr => (HH.out.2.2.2.2.2.1.recs r (List.mem_of_mem_take hr)).1)
        rw [List.length_take] at this
        have e0 : sumA wO ([] : OM) = 0 := rfl
        omega
      rw [hSN] at HR hc9
      rw [hMj] at hcore
      have hSNI : (SN : Int) ≤ 1000000000 := by have := HH.out.2.2.2.2.2.2.2.2.1; omega
      have HX := Lib.hid (And.intro hcore (And.intro hct (And.intro kr (And.intro hrs (And.intro hrs7 (And.intro hrl (And.intro hMnext (And.intro hMs (And.intro hMv (And.intro hMw (And.intro hSN hlo)))))))))))
      clear hcore hct kr hlg hrs hrs7 hrl hMnext hMs hMv hMw hSN hMj hlo
      go_wp2_with (fail)
      refine HR.out.mono ?_
      rintro e w5 ⟨vo, rfl, own5, k5⟩
      obtain ⟨p5, c5, rfl⟩ := own_form own5
      have H5 := Lib.hid (And.intro own5 k5)
      clear own5 k5
      go_wp2_with (fail)
      obtain ⟨CJ, hCJ⟩ : ∃ CJ, C = CJ := ⟨_, rfl⟩
      subst hCJ
      have hrI : (rs.length : Int) ≤ 7 := by have := HX.out.2.2.2.2.2.1; omega
      have HK5 : Hid (Kept [mb + 2, mb, mb + 1] w4 w5) := Lib.hid (HX.out.2.2.1.trans' (H5.out.2.mono (by simp)))
      go_loopw [62] (fun v62 wx => ∃ (i : Nat) (D : List (Int × Nat)), i ≤ rs.length ∧ v62 = I i ∧ CoreAt wx (mb + 2) pb lb mb (mb + 1) (sumA wO (repR SN (rs.take i) 0 Mj)) (repR SN (rs.take i) 0 Mj) D ∧ CtPart st.D L st.segs j i D ∧ Kept [mb + 2, mb, mb + 1] w5 wx) (fun v62 _ => rs.length - (intOf v62).toNat)
      case atStart => exact ⟨0, C, Nat.zero_le _, rfl, HX.out.1.same H5.out.2, HX.out.2.1, Kept.refl _ _⟩
      case round =>
        obtain ⟨i, D, hi, rfl, hcore, hct, kx⟩ := hrel
        by_cases hil : i < rs.length
        · have hilI : (i : Int) < rs.length := by omega
          obtain ⟨g5, c5', e5, hg5, hc5⟩ := row_cells1 H5.out.1 (by omega)
          cases e5
          have d5 := hc5 i hil
          rw [List.getElem?_map, List.getElem?_map, List.getElem?_eq_getElem hil] at d5
          simp only [Option.map_some] at d5
          obtain ⟨R, hR⟩ : ∃ R, rs[i] = R := ⟨_, rfl⟩
          have hRi : rs[i]? = some R := by rw [List.getElem?_eq_getElem hil, hR]
          rw [hR] at d5
          have hFR : FormC R := HX.out.2.2.2.2.1.2 R (List.mem_of_getElem? hRi)
          have hlo := HX.out.2.2.2.2.2.2.2.2.2.2.2
          have hw4 := HX.out.2.2.1.size
          have d6 := (kx.cell (p := ⟨g5, i, none⟩) (World.block_lt_of_cell? w5 _ d5) (by simp; omega)).trans d5
          have HP := Lib.hid (fun W => oparse_any R (fun c hc => hFR.2.1 c hc) (by have := hFR.2.2; omega) (by have := formC_len hFR; omega) W)
          have HFO := Lib.hid (fun W cv (hv : ChsAt W cv R) => by
            have := form_any R cv W hv (by have := formC_len hFR; omega)
            rw [formC_zero hFR] at this
            exact this)
          have hms := repR_sorted SN (rs.take i) 0 Mj HX.out.2.2.2.2.2.2.2.1
          have hmv := repR_vals SN (rs.take i) 0 (fun l hl c hc => ((HX.out.2.2.2.2.1.2 l (List.mem_of_mem_take hl)).2.1 c hc).2.2.1) HX.out.2.2.2.2.2.2.2.1 HX.out.2.2.2.2.2.2.2.2.1
          have hmw : sumA wO (repR SN (rs.take i) 0 Mj) ≤ 63 * 257 := by
            have h1 := repR_sum SN (rs.take i) 0 (M := Mj) HX.out.2.2.2.2.2.2.2.1
            have h2 := usedS_take rs i
            have h3 := HX.out.2.2.2.2.1.1
            have h4 := HX.out.2.2.2.2.2.2.2.2.2.1
            omega
          have hnext := repR_take SN rs Mj i R hRi
          obtain ⟨Mi, hMi⟩ : ∃ Mi, repR SN (rs.take i) 0 Mj = Mi := ⟨_, rfl⟩
          rw [hMi] at hcore hms hmv hmw hnext
          have hcl := hct.few hcore.ct.srt
          have hjL : j < L := hlt
          have hSN := HX.out.2.2.2.2.2.2.2.2.2.2.1
          have hnow := hct.now
          rw [hSN] at hnow
          have hstep := hct.step hcore.ct.srt hjL
          rw [hSN] at hstep
          have HTK := Lib.hid (fun W (k : Kept [] wr W) cv (hv : ChsAt W cv R) (hq : ∀ q, cv.ownBlock = some q → q ∉ [mb + 2, mb, mb + 1]) => takes_any W (mb + 2) pb lb mb (mb + 1) Mi D (hcore.same k) R cv hv hq (by have := formC_len hFR; omega) (fun c hc => ⟨(hFR.2.1 c hc).1, (hFR.2.1 c hc).2.1, (hFR.2.1 c hc).2.2.1⟩) hmv (by omega) SN i (by have := HH.out.2.2.2.2.2.2.2.2.1; omega) hnow (by have := HX.out.2.2.2.2.2.1; omega) (by have := HH.out.2.2.2.2.2.2.2.2.2.2; omega))
          have HY := Lib.hid (And.intro hstep (And.intro kx (And.intro hnext (And.intro hlo hw4))))
          clear hcore hct kx hc5 d5 hR hRi hFR hlo hw4 hms hmv hmw hnext hMi hcl hSN hnow hstep
          obtain ⟨RB, hRB⟩ : ∃ RB, recF R = RB := ⟨_, rfl⟩
          rw [hRB] at d6 HP
          clear hRB
          go_wp2_with (fail)
          refine (HP.out _).mono ?_
          rintro e w6 ⟨p6, c6, rfl, own6, k6⟩
          have hch := own6.at
          have H6 := Lib.hid (And.intro own6 (And.intro k6 hch))
          clear own6 k6 hch
          go_wp2_with (fail)
          refine (HFO.out w6 _ H6.out.2.2).mono ?_
          rintro e w7 ⟨rfl, k7⟩
          have HT7 := Lib.hid (HTK.out w7 (H6.out.2.1.trans' k7) _ (H6.out.2.2.same k7) (fun q hq hm => by
            have h1 := (own_lt H6.out.1 q hq).1
            have h2 := HY.out.2.1.size
            have h3 := HY.out.2.2.2.2
            have h4 := HY.out.2.2.2.1
            have h5 := H5.out.2.size
            simp at hm
            omega))
          have K7 := Lib.hid (H6.out.2.1.trans' k7)
          clear k7
          go_wp2_with (fail)
          refine HT7.out.mono ?_
          rintro e w8 ⟨rfl, hc8, k8⟩
          have H8 := Lib.hid (And.intro hc8 k8)
          clear hc8 k8
          go_wp2_with (fail)
          go_roundw
          case rel => exact ⟨i + 1, _, by omega, by go_num, by rw [HY.out.2.2.1]; exact H8.out.1, HY.out.1, (HY.out.2.1.trans' (K7.out.mono (by simp))).trans' H8.out.2⟩
          case measure => simp [intOf]; omega
        · have hie : i = rs.length := by omega
          subst hie
          rw [List.take_length] at hcore
          have HE := Lib.hid (And.intro hcore (And.intro hct kx))
          clear hcore hct kx hil hi
          go_wp2_with (fail)
          go_roundw
          case rel => exact ⟨j + 1, D, by omega, by go_num, by rw [HX.out.2.2.2.2.2.2.1]; exact HE.out.1, HE.out.2.1.next HX.out.2.2.2.1, HK5.out.trans' HE.out.2.2⟩
          case measure => simp [intOf]; omega
    · have hje : j = L := by omega
      subst hje
      obtain ⟨h, hd, ha, h8, hF, hI, hfree, hq, hD, hL, hLn, hb⟩ := HH.out
      have hrep : repS (st.D + 1) (st.segs.take j) [] = st.M := by rw [← hL, List.take_length]; exact hI.rep
      rw [hrep] at hcore
      have hct2 : CtOK st C := by
        have hct3 : CtPart st.D st.segs.length st.segs j 0 C := by rw [hL]; exact hct
        refine CtPart.all (st := st) ?_
        rw [hL]
        exact hct
      have HQ := Lib.hid (fun W (k : Kept [] wr W) => oquota_any W (mb + 2) pb lb mb (mb + 1) fb bb cb n _ st.M C (hcore.same k) f (hlg.same k).pt h8)
      have c4 := hcore.cells.2.2.2.2.1
      have hfz := hcore.free
      have hsep : ∀ x, x ∈ [mb + 2, mb, mb + 1] → x ∉ LgT lb fb bb cb v ∧ x ≠ pb := by
        intro x hx
        have h3 := H3.out.1
        have h4 := HC3.out.2.2.2.1
        have e1 := hlg.n1
        have e2 := hlg.n2
        have e3 := hlg.n3
        have e4 := hlg.n4
        have hxm : mb ≤ x := by simp at hx; omega
        refine ⟨fun hm => ?_, by omega⟩
        simp only [LgT, List.mem_append, Option.mem_toList] at hm
        rcases hm with hm | hm
        · simp at hm; omega
        · have := (own_lt h3.own x (by simpa using hm)).2
          omega
      have HFIN : Hid (∀ W, Kept [] wr W → SOpen w1 pb fb bb cb n st f (.returned (.tuple #[Ptr (mb + 2), I 0])) W) := Lib.hid (fun W k => by
        have h4 := HC3.out.2.2.2.1
        have h2 := H2.out
        have hsz := h2.2.2.2.size
        have hsz3 := HS3.out
        refine ⟨mb + 2, lb, mb, mb + 1, v, rfl, ⟨hlg.same k, ⟨C, hcore.same k, hct2⟩, hF, hI, ⟨hd, ha⟩, hsep⟩, by omega, h2.1, by omega, by omega, h2.2.2.1, ?_⟩
        exact (H4.out.2.2.1.new kr (fun x hx => by simp at hx; omega)).trans' k)
      obtain ⟨X, hX⟩ : ∃ X, sumA wO st.M = X := ⟨_, rfl⟩
      obtain ⟨Q, hQ⟩ : ∃ Q, quotaF n = Q := ⟨_, rfl⟩
      rw [hX] at c4 hq
      rw [hQ] at HQ hq
      have hle : (X : Int) ≤ Q := by omega
      have hld : decide ((Q : Int) < X) = false := decide_eq_false (by omega)
      have hld2 : decide (Q < X) = false := decide_eq_false (by omega)
      clear h hd ha h8 hF hI hfree hq hD hL hLn hb hrep hcore hct hct2 hsep hlg kr hX hQ hlt
      go_wp2_with (fail)
      go_quiet ((go_at_call 36; exact Calls.quiet_of_same (HQ.out _ ((Kept.refl [] wr).drewN _))))
      go_wp2_with (fail)
      go_ret2
      exact HFIN.out _ ((Kept.refl [] wr).drewN nq)
end

end Go.Proofs.YtncdfaocemfgfaaGreat
