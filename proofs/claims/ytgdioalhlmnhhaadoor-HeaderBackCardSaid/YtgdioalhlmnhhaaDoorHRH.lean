/- Walks and lemmas on the program of this seat, used by its statements; each theorem bears its own conditions. -/
import Derived.Test.YtgdioalhlmnhhaaDoorHRG
import Derived.Handy
import Derived.Deep.CutRange
import Derived.IntWalk
import Derived.OwnWalk
import Derived.Deep.AppendLies
import Derived.RegionTactic
import Derived.ChangeAlike
namespace Go.Proofs.YtgdioalhlmnhhaaDoor
open Go.RowKit
set_option linter.unusedVariables false
set_option linter.unusedSimpArgs false
theorem low_cell {w1 W1 wr : World} {p : Addr} {v : Value} (h : w1.cell? p = some v) (k : Kept [] w1 W1) (k2 : Kept [w1.heap.size] W1 wr) : wr.cell? p = some v := by
  have hb : p.block < w1.heap.size := World.block_lt_of_cell? w1 _ h
  rw [k2.cell (by have := k.size; omega) (by simp; omega), k.cell hb (by simp), h]
theorem kindN_snoc (k : List UInt8) (ls : List (List UInt8)) (i : Nat) (h : i < ls.length) (b : Bool) (hb : WX.isK k (ls.getD i []) = b) : WX.kindN k (ls.take (i + 1)) = WX.kindN k (ls.take i) + (if b then 1 else 0) := by
  have e : ls.getD i [] = ls[i] := by simp [List.getD, h]
  unfold WX.kindN
  rw [List.take_succ_eq_append_getElem h, List.countP_append, List.countP_cons, List.countP_nil, ← e, hb]; simp
theorem fold_snoc (ls : List (List UInt8)) (i : Nat) (h : i < ls.length) : (ls.take (i + 1)).foldl WX.takeR WX.zeroR = WX.takeR ((ls.take i).foldl WX.takeR WX.zeroR) (ls.getD i []) := by
  have e : ls.getD i [] = ls[i] := by simp [List.getD, h]
  rw [List.take_succ_eq_append_getElem h, List.foldl_append, e]; rfl
theorem kindN_le (k : List UInt8) (ls : List (List UInt8)) : WX.kindN k ls ≤ ls.length := List.countP_le_length
theorem takeR_n {h : WX.Hr} {l : List UInt8} (hk : WX.isK WX.nameP l = true) : WX.takeR h l = { h with nm := l.drop 5 } := by unfold WX.takeR; rw [if_pos hk]
theorem takeR_d {h : WX.Hr} {l : List UInt8} (hn : WX.isK WX.nameP l = false) (hk : WX.isK WX.devP l = true) : WX.takeR h l = { h with ds := h.ds ++ [l.drop 7] } := by unfold WX.takeR; rw [if_neg (by simp [hn]), if_pos hk]
theorem takeR_z {h : WX.Hr} {l : List UInt8} (hn : WX.isK WX.nameP l = false) (hd : WX.isK WX.devP l = false) (hk : WX.isK WX.sizeP l = true) : WX.takeR h l = { h with sz := WX.sizeF 7 (l.drop 5) 0 } := by unfold WX.takeR; rw [if_neg (by simp [hn]), if_neg (by simp [hd]), if_pos hk]
theorem one_kind {l : List UInt8} : (WX.isK WX.nameP l = true → WX.isK WX.devP l = false ∧ WX.isK WX.sizeP l = false) ∧ (WX.isK WX.devP l = true → WX.isK WX.nameP l = false ∧ WX.isK WX.sizeP l = false) ∧ (WX.isK WX.sizeP l = true → WX.isK WX.nameP l = false ∧ WX.isK WX.devP l = false) := by
  refine ⟨fun h => ?_, fun h => ?_, fun h => ?_⟩
  · rw [WX.isK_pre h]; exact ⟨WX.isK_dn _, WX.isK_sn _⟩
  · rw [WX.isK_pre h]; exact ⟨WX.isK_nd _, WX.isK_sd _⟩
  · rw [WX.isK_pre h]; exact ⟨WX.isK_ns _, WX.isK_ds _⟩
theorem sizeF_step (k : Nat) (z : List UInt8) (n : Int) (h : k < 7) (hz : k < z.length) : WX.sizeF (7 - k) (z.drop k) n = WX.sizeF (7 - (k + 1)) (z.drop (k + 1)) (10 * n + (byteAt z k).toNat - 48) := by
  rw [List.drop_eq_getElem_cons hz, show 7 - k = (7 - (k + 1)) + 1 by omega, byteAt_eq z k hz]; rfl
theorem sizeF_end (k : Nat) (z : List UInt8) (n : Int) (h : ¬ (k < z.length ∧ k < 7)) (hk : k ≤ 7) : WX.sizeF (7 - k) (z.drop k) n = n := by
  by_cases h7 : k = 7
  · subst h7; rfl
  · rw [List.drop_of_length_le (by omega)]; exact WX.sizeF_nil _ _
theorem fold_len (B : Nat) : ∀ (ls : List (List UInt8)) (h : WX.Hr), (∀ l ∈ ls, l.length ≤ B) → (h.nm.length ≤ B ∧ ∀ d ∈ h.ds, d.length ≤ B) → ((ls.foldl WX.takeR h).nm.length ≤ B ∧ ∀ d ∈ (ls.foldl WX.takeR h).ds, d.length ≤ B)
  | [], h, _, hh => hh
  | l :: ls, h, hl, hh => by
    rw [List.foldl_cons]
    refine fold_len B ls _ (fun x hx => hl x (by simp [hx])) ?_
    have h0 := hl l (by simp)
    unfold WX.takeR
    split
    · exact ⟨by simp; omega, hh.2⟩
    · split
      · refine ⟨hh.1, fun d hd => ?_⟩
        rcases List.mem_append.1 hd with hd | hd
        · exact hh.2 d hd
        · rw [List.mem_singleton.1 hd]; simp; omega
      · split <;> exact hh
theorem rparse_res (W : World) (tmps : Array Value) (b : Nat) (x y z e : Value) (hb : W.heap[b]? = some (.cells #[x, y, z] HrT (0, 0))) (t2 : tmps.getD 2 undef = Ptr b) (t3 : tmps.getD 3 undef = e) :
    (results Tryd.f32 tmps).run Tryd.prog W = .ok (.tuple #[.agg #[x, y, z], e]) W := by
  obtain ⟨c0, c1, c2⟩ := cells3r hb
  rw [Array.getD_eq_getD_getElem?] at t2 t3
  simp [results, Tryd.results32, go_sem, t2, t3, c0, c1, c2]
theorem rparse_end {w wr : World} {tmps : Array Value} {r : WX.Hr × Int} {h : WX.Hr} {v : Value} {n : Int} (hb : wr.heap[w.heap.size]? = some (.cells #[S h.nm, v, I h.sz] HrT (0, 0))) (ho : OwnT w.heap.size wr v h.ds) (hk : Kept [] w wr) (hr : r = (h, n))
    (t2 : tmps.getD 2 undef = Ptr w.heap.size) (t3 : tmps.getD 3 undef = I n) : bodyPost Tryd.prog Tryd.f32 (HdrPost w r) .ret { tmps := tmps, defers := [] } wr :=
  bodyPost_ret (rparse_res wr tmps w.heap.size _ _ _ _ hb t2 t3) rfl ⟨v, by rw [hr], by rw [hr]; exact ho, hk⟩
theorem zero_stored {w1 : World} {b : Nat} {x y z : Value} (h : w1.heap[b]? = some (.cells #[x, y, z] HrT (0, 0))) (a c d : Value) : (((w1.setCell ⟨b, 0, none⟩ a).setCell ⟨b, 1, none⟩ c).setCell ⟨b, 2, none⟩ d).heap[b]? = some (.cells #[a, c, d] HrT (0, 0)) :=
  heap_setCell_at (heap_setCell_at (heap_setCell_at h 0 a) 1 c) 2 d
theorem Kept.set3 {w w1 : World} {b : Nat} (k : Kept [] w w1) (h : w.heap.size ≤ b) (a c d : Value) : Kept [] w (((w1.setCell ⟨b, 0, none⟩ a).setCell ⟨b, 1, none⟩ c).setCell ⟨b, 2, none⟩ d) :=
  ((k.setCell (p := ⟨b, 0, none⟩) (.inr h) a).setCell (p := ⟨b, 1, none⟩) (.inr h) c).setCell (p := ⟨b, 2, none⟩) (.inr h) d
set_option maxRecDepth 100000 in
set_option maxHeartbeats 8000000 in
theorem rparse_any (s : List UInt8) (w : World) (hs : s.length ≤ 3000) (r : WX.Hr × Int) (hr : WX.parseR s = r) :
    Calls Tryd.prog 32 #[S s] w (HdrPost w r) := by
  have HR := Lib.hid hr
  have hs' : (s.length : Int) ≤ 3000 := by omega
  obtain ⟨A, hA⟩ : ∃ A, w.alloc (.cells #[S [], nilV, I 0] HrT) = A := ⟨_, rfl⟩
  have HA : Hid (A.heap[w.heap.size]? = some (.cells #[S [], nilV, I 0] HrT (0, 0)) ∧ Kept [] w A ∧ w.heap.size < A.heap.size) := Lib.hid (by rw [← hA]; exact ⟨heap_new w _, (Kept.refl _ _).alloc _, by simp⟩)
  clear hr
  go_enter Tryd.func32, Tryd.ntmps32
  go_wp2_with (fail)
  clear hA
  refine (lines_any s A hs).mono ?_
  rintro e w1 ⟨lv, ls, rfl, ol, hl3, hls, k1⟩
  obtain ⟨p, c, rfl⟩ := ol.form
  have H1 : Hid (w1.heap[w.heap.size]? = some (.cells #[S [], nilV, I 0] HrT (0, 0)) ∧ Kept [] w w1 ∧ w.heap.size < w1.heap.size) := Lib.hid ⟨k1.at HA.out.1 (by simp), HA.out.2.1.trans' k1, by have := k1.size; have := HA.out.2.2; omega⟩
  have HLS := Lib.hid (ol.texts (by omega))
  have hl3' : (ls.length : Int) ≤ 3000 := by omega
  clear ol k1
  obtain ⟨en, hen⟩ : ∃ b, WX.ends10 s = b := ⟨_, rfl⟩
  rw [hen] at hls ⊢
  cases en with
  | false =>
    have HX : Hid (r = (WX.zeroR, 210)) := Lib.hid (by rw [← HR.out]; exact parseR_form0 hen)
    obtain ⟨z0, z1, z2⟩ := cells3r H1.out.1
    have zf := fun i => free_at H1.out.1 i
    clear hen hls
    go_wp2_with (fail)
    exact rparse_end (h := WX.zeroR) (zero_stored H1.out.1 (S []) nilV (I 0)) (OwnT.nil _ _) (H1.out.2.1.set3 (Nat.le_refl _) _ _ _) HX.out rfl rfl
  | true =>
    obtain rfl := hls rfl
    have HEN := Lib.hid hen
    have HLN := Lib.hid (fun x hx => WX.linesG_each s x hx)
    obtain ⟨ls, hlsd⟩ : ∃ ls, WX.linesG s = ls := ⟨_, rfl⟩
    rw [hlsd] at HLS HLN hl3 hl3' ⊢
    have HLD := Lib.hid hlsd
    obtain ⟨W1, hW1⟩ : ∃ W1, w1.alloc (.cells #[S [], nilV, I 0] HrT) = W1 := ⟨_, rfl⟩
    have HW1 : Hid (PR (w1.heap.size + 1) w1.heap.size W1 WX.zeroR nilV ∧ W1.heap[w.heap.size]? = some (.cells #[S [], nilV, I 0] HrT (0, 0)) ∧ Kept [] w1 W1 ∧ Kept [] w W1 ∧ W1.heap.size = w1.heap.size + 1) := Lib.hid (by
      have kd : Kept [] w1 (w1.alloc (.cells #[S [], nilV, I 0] HrT)) := (Kept.refl _ _).alloc _
      rw [← hW1]; exact ⟨⟨heap_new w1 _, OwnT.nil _ _, by omega⟩, kd.at H1.out.1 (by simp), kd, H1.out.2.1.trans' kd, by simp⟩)
    have HWE := Lib.hid hW1
    clear hls hen hlsd hW1
    go_wp2_with (fail)
    rw [HWE.out]
    go_loopw [7, 8, 9, 10] (fun nv zv tv iv wr => ∃ (i n z : Nat) (tw : Bool) (h : WX.Hr) (v : Value), iv = I i ∧ nv = I n ∧ zv = I z ∧ tv = .bool tw ∧ i ≤ ls.length ∧ n ≤ 3000 ∧ z ≤ 3000 ∧ n = WX.kindN WX.nameP (ls.take i) ∧ z = WX.kindN WX.sizeP (ls.take i) ∧ tw = ndB (ls.take i) ∧
      h = (ls.take i).foldl WX.takeR WX.zeroR ∧ (ls.take i).all (fun l => WX.kindL l != []) = true ∧ h.ds.length ≤ i ∧ -300000000 ≤ h.sz ∧ h.sz ≤ 300000000 ∧ PR (w1.heap.size + 1) w1.heap.size wr h v ∧ Kept [w1.heap.size] W1 wr) (fun _ _ _ iv _ => ls.length - (intOf iv).toNat)
    case atStart => exact ⟨0, 0, 0, false, WX.zeroR, nilV, rfl, rfl, rfl, rfl, by omega, by omega, by omega, rfl, rfl, rfl, rfl, rfl, by simp [WX.zeroR], by simp [WX.zeroR], by simp [WX.zeroR], HW1.out.1, Kept.refl _ _⟩
    case round =>
      obtain ⟨i, n, z, tw, h, v, rfl, rfl, rfl, rfl, hi, hn3, hz3, hn, hz, htw, hh, hall, hds, hb1, hb2, hpr, hk⟩ := hrel
      have HQ := Lib.hid (And.intro hn (And.intro hz (And.intro htw (And.intro hh (And.intro hall (And.intro hb1 hb2))))))
      have HP := Lib.hid (And.intro hpr hk)
      have hn3' : (n : Int) ≤ 3000 := by omega
      have hz3' : (z : Int) ≤ 3000 := by omega
      clear hn hz htw hh hall hb1 hb2 hpr hk
      by_cases hlt : i < ls.length
      · have hlt' : (i : Int) < ls.length := by omega
        obtain ⟨p', c', e0, _, hcell⟩ := HLS.out
        cases e0
        obtain ⟨bb, of, rfl, hc⟩ := hcell (by intro e; rw [e] at hlt; simp at hlt)
        have HC := Lib.hid hc
        have c1 := low_cell (hc i hlt) HW1.out.2.2.1 HP.out.2
        have HK1 := Lib.hid (kindN_snoc WX.nameP ls i hlt)
        have HK2 := Lib.hid (kindN_snoc WX.sizeP ls i hlt)
        have HFS := Lib.hid (fold_snoc ls i hlt)
        have HND := Lib.hid (ndB_snoc ls i hlt)
        have HTA := Lib.hid (take_all ls i hlt (fun l => WX.kindL l != []))
        have HFM := Lib.hid (fun hk => parseR_form1 (i := i) HEN.out (by rw [HLD.out]; exact hlt) hk)
        rw [HLD.out] at HFM
        have hll := HLN.out _ (mem_getD1 ls i hlt)
        obtain ⟨l, hl⟩ : ∃ l, ls.getD i [] = l := ⟨_, rfl⟩
        rw [hl] at c1 HK1 HK2 HFS HND HTA HFM hll
        have HL := Lib.hid hl
        have hll' : (l.length : Int) ≤ 3000 := by omega
        obtain ⟨bn, hbn⟩ : ∃ b, WX.isK WX.nameP l = b := ⟨_, rfl⟩
        obtain ⟨bd, hbd⟩ : ∃ b, WX.isK WX.devP l = b := ⟨_, rfl⟩
        obtain ⟨bz, hbz⟩ : ∃ b, WX.isK WX.sizeP l = b := ⟨_, rfl⟩
        have HAN := Lib.hid (after_any l WX.nameP wr (by omega) (by decide) bn hbn)
        have HAD := Lib.hid (after_any l WX.devP wr (by omega) (by decide) bd hbd)
        have HAZ := Lib.hid (after_any l WX.sizeP wr (by omega) (by decide) bz hbz)
        have HBB := Lib.hid (And.intro hbn (And.intro hbd hbz))
        have HOK := Lib.hid (@one_kind l)
        have HKL := Lib.hid (kind_parts l)
        rw [hbn, hbd, hbz] at HOK HKL
        obtain ⟨xn, hxn⟩ : ∃ x, (if bn = true then l.drop WX.nameP.length else []) = x := ⟨_, rfl⟩
        obtain ⟨xd, hxd⟩ : ∃ x, (if bd = true then l.drop WX.devP.length else []) = x := ⟨_, rfl⟩
        obtain ⟨xz, hxz⟩ : ∃ x, (if bz = true then l.drop WX.sizeP.length else []) = x := ⟨_, rfl⟩
        rw [hxn] at HAN
        rw [hxd] at HAD
        rw [hxz] at HAZ
        have HXX := Lib.hid (And.intro hxn (And.intro hxd hxz))
        clear hc hl hbn hbd hbz hxn hxd hxz
        go_wp2_with (fail)
        refine HAN.out.mono ?_
        rintro e w' ⟨rfl, rfl⟩
        go_wp2_with (fail)
        refine HAD.out.mono ?_
        rintro e w' ⟨rfl, rfl⟩
        go_wp2_with (fail)
        refine HAZ.out.mono ?_
        rintro e w' ⟨rfl, rfl⟩
        obtain ⟨nk, hnk⟩ : ∃ b, (!(bn || (bd || bz))) = b := ⟨_, rfl⟩
        have HNK := Lib.hid hnk
        clear hnk
        go_upto_region 13 with (fail)
        go_cut [69] from 60 to 68 (fun v wx => v = .bool nk ∧ wx = wr)
        case first =>
          cases bn <;> cases bd <;> cases bz
          all_goals
            go_wp2_with (fail)
            all_goals (go_meet; exact ⟨by rw [← HNK.out]; rfl, rfl⟩)
        case rest =>
        obtain ⟨rfl, hwc0⟩ := hcut
        replace hwc0 := hwc0.symm
        subst hwc0
        cases nk with
        | true =>
          have HX : Hid (r = (WX.zeroR, 210)) := Lib.hid (by
            rw [← HR.out]; apply HFM.out
            have h1 := HNK.out
            have h2 := HKL.out
            rw [Bool.not_eq_true'] at h1
            rw [h1] at h2
            simpa using h2)
          have hr0 := (HP.out.2.at HW1.out.2.1 (by have := H1.out.2.2; simp; omega))
          have HR0 := Lib.hid hr0
          have HRK := Lib.hid (HW1.out.2.2.2.1.new1 HP.out.2 (by have := H1.out.2.2; omega))
          obtain ⟨z0, z1, z2⟩ := cells3r hr0
          have zf := fun i => free_at hr0 i
          clear hr0
          go_wp2_with (fail)
          exact rparse_end (h := WX.zeroR) (zero_stored HR0.out (S []) nilV (I 0)) (OwnT.nil _ _) (HRK.out.set3 (Nat.le_refl _) _ _ _) HX.out rfl rfl
        | false =>
          have HTA2 : Hid ((ls.take (i + 1)).all (fun l => WX.kindL l != []) = true) := Lib.hid (by
            rw [HTA.out, HQ.out.2.2.2.2.1, HKL.out]
            have h1 := HNK.out
            rw [Bool.not_eq_false'] at h1
            rw [h1]; rfl)
          obtain ⟨n1, hn1⟩ : ∃ m : Nat, n + (if bn = true then 1 else 0) = m := ⟨_, rfl⟩
          obtain ⟨z1, hz1⟩ : ∃ m : Nat, z + (if bz = true then 1 else 0) = m := ⟨_, rfl⟩
          have HN1 := Lib.hid (And.intro hn1 hz1)
          obtain ⟨h1, hh1⟩ : ∃ h1 : WX.Hr, (if bn = true then { h with nm := xn } else h) = h1 := ⟨_, rfl⟩
          obtain ⟨h2, hh2⟩ : ∃ h2 : WX.Hr, (if bd = true then { h1 with ds := h1.ds ++ [xd] } else h1) = h2 := ⟨_, rfl⟩
          obtain ⟨h3, hh3⟩ : ∃ h3 : WX.Hr, (if bz = true then { h2 with sz := WX.sizeF 7 xz 0 } else h2) = h3 := ⟨_, rfl⟩
          have HH3 : Hid (WX.takeR h l = h3) := Lib.hid (by
            rw [← hh3, ← hh2, ← hh1, ← HXX.out.1, ← HXX.out.2.1, ← HXX.out.2.2]
            cases bn with
            | true =>
              obtain ⟨o1, o2⟩ := HOK.out.1 rfl
              subst o1 o2
              rw [takeR_n HBB.out.1]; rfl
            | false =>
              cases bd with
              | true =>
                obtain ⟨o1, o2⟩ := HOK.out.2.1 rfl
                subst o2
                rw [takeR_d HBB.out.1 HBB.out.2.1]; rfl
              | false =>
                cases bz with
                | false => exact absurd HNK.out (by simp)
                | true => rw [takeR_z HBB.out.1 HBB.out.2.1 HBB.out.2.2]; rfl)
          have hd1 : h1.ds.length ≤ i := by rw [← hh1]; split <;> exact hds
          have hd2 : h2.ds.length ≤ i + 1 := by rw [← hh2]; split <;> (try simp) <;> omega
          have hsz1 : h2.sz = h.sz := by rw [← hh2, ← hh1]; split <;> split <;> rfl
          have hd3 : h3.ds.length ≤ i + 1 := by rw [← hh3]; split <;> simpa using hd2
          have HSZ := Lib.hid hsz1
          have HH1 := Lib.hid hh1
          have HH2 := Lib.hid hh2
          have HHZ := Lib.hid hh3
          obtain ⟨g0, g1, g2⟩ := HP.out.1.cells
          have gf := HP.out.1.free
          clear hn1 hz1 hh1 hh2 hh3 hsz1
          go_upto_if 71 with (fail)
          go_cut [7] from 71 to 75 (fun nv wx => nv = I n1 ∧ PR (w1.heap.size + 1) w1.heap.size wx h1 v ∧ Kept [w1.heap.size] W1 wx)
          case first =>
            cases bn with
            | true =>
              obtain rfl : n + 1 = n1 := HN1.out.1
              obtain rfl : { h with nm := xn } = h1 := HH1.out
              go_wp2_with (fail)
              go_meet
              exact ⟨by go_num, HP.out.1.setName xn, HP.out.2.setCell (.inl (by simp)) _⟩
            | false =>
              obtain rfl : n = n1 := HN1.out.1
              obtain rfl : h = h1 := HH1.out
              go_wp2_with (fail)
              go_meet
              exact ⟨rfl, HP.out.1, HP.out.2⟩
          case rest =>
          obtain ⟨rfl, hpr1, hkk1⟩ := hcut
          obtain ⟨w2, hw2⟩ : ∃ w2, w2 = wc := ⟨_, rfl⟩
          subst hw2
          have HP1 := Lib.hid (And.intro hpr1 hkk1)
          clear g0 g1 g2 gf
          obtain ⟨g0, g1, g2⟩ := hpr1.cells
          have gf := hpr1.free
          clear hpr1 hkk1
          go_upto_if 76 with (fail)
          go_cut [] from 76 to 82 (fun wx => ∃ v', PR (w1.heap.size + 1) w1.heap.size wx h2 v' ∧ Kept [w1.heap.size] W1 wx)
          case first =>
            cases bd with
            | true =>
              obtain rfl : { h1 with ds := h1.ds ++ [xd] } = h2 := HH2.out
              obtain ⟨p2, c2, rfl⟩ := HP1.out.1.own.form
              obtain ⟨i0, hi', hz0, hz1, hz2⟩ := info_parts str_info
              have HA2 : Hid (PR (w1.heap.size + 1) w1.heap.size (w2.alloc (.cells #[S xd] 9)) h1 (.slice p2 h1.ds.length c2) ∧ Kept [w1.heap.size] W1 (w2.alloc (.cells #[S xd] 9))) := Lib.hid ⟨HP1.out.1.kept ((Kept.refl _ _).alloc _), HP1.out.2.alloc _⟩
              have hws : w1.heap.size + 1 ≤ w2.heap.size := by have := HP1.out.2.size; have := HW1.out.2.2.2.2; omega
              go_wp2_with (at_builtin
                           refine wpList_append_lies _ rfl (.tmp 78) (.tmp 80) _ rfl (w1.heap.size + 1) 9 i0 (.string ⟨#[]⟩) 1 16 Tryd.underlying47 hi' hz0 hz1 hz2 rfl (by decide) (.slice p2 h1.ds.length c2) h1.ds.length (h1.ds.map S) rfl HA2.out.1.own ⟨w2.heap.size, 0, none⟩ 1 1 [S xd] rfl rfl (World.news_of_block (heap_new w2 _)) (S_one [xd]) (by decide) (by unfold maxLen; omega) (by omega) (by simp; omega) _ rfl ?_
                           intro g cap wa own1 gr1 hat hlt9
                           have HBL := Lib.hid (HA2.out.1.blkGrown gr1)
                           have HB := Lib.hid (And.intro (HA2.out.1.app own1 gr1) (HA2.out.2.grownS gr1 (fun q e => by have := (HA2.out.1.own.lt q e).1; have := HW1.out.2.2.2.2; omega)))
                           obtain ⟨y0, y1, y2⟩ := cells3r HBL.out
                           have yf := fun i => free_at HBL.out i
                           clear own1 gr1 hat hlt9)
              go_meet
              exact ⟨_, HB.out.1, HB.out.2.setCell (.inl (by simp)) _⟩
            | false =>
              obtain rfl : h1 = h2 := HH2.out
              go_wp2_with (fail)
              go_meet
              exact ⟨v, HP1.out.1, HP1.out.2⟩
          case rest =>
          obtain ⟨v2, hpr1, hkk1⟩ := hcut
          obtain ⟨w3, hw3⟩ : ∃ w3, w3 = wc := ⟨_, rfl⟩
          subst hw3
          have HP2 := Lib.hid (And.intro hpr1 hkk1)
          clear g0 g1 g2 gf
          obtain ⟨g0, g1, g2⟩ := hpr1.cells
          have gf := hpr1.free
          clear hpr1 hkk1
          go_upto_if 83 with (fail)
          go_cut [8] from 83 to 106 (fun zv wx => zv = I z1 ∧ -300000000 ≤ h3.sz ∧ h3.sz ≤ 300000000 ∧ PR (w1.heap.size + 1) w1.heap.size wx h3 v2 ∧ Kept [w1.heap.size] W1 wx)
          case first =>
            cases bz with
            | false =>
              obtain rfl : z = z1 := HN1.out.2
              obtain rfl : h2 = h3 := HHZ.out
              go_wp2_with (fail)
              go_meet
              exact ⟨rfl, by rw [HSZ.out]; exact HQ.out.2.2.2.2.2.1, by rw [HSZ.out]; exact HQ.out.2.2.2.2.2.2, HP2.out.1, HP2.out.2⟩
            | true =>
              obtain rfl : z + 1 = z1 := HN1.out.2
              obtain rfl : { h2 with sz := WX.sizeF 7 xz 0 } = h3 := HHZ.out
              have HXZ : Hid (l.drop 5 = xz) := Lib.hid HXX.out.2.2
              have hxl : (xz.length : Int) ≤ 3000 := by rw [← HXZ.out, List.length_drop]; omega
              have HS0 := Lib.hid (And.intro (HP2.out.1.setSize 0) (HP2.out.2.setCell (p := ⟨w1.heap.size, 2, none⟩) (.inl (by simp)) (I 0)))
              go_wp2_with (fail)
              go_loopw [17] (fun kv ws => ∃ (k : Nat) (m : Int), kv = I k ∧ k ≤ 7 ∧ k ≤ xz.length ∧ -(bnd k) ≤ m ∧ m ≤ bnd k ∧ WX.sizeF (7 - k) (xz.drop k) m = WX.sizeF 7 xz 0 ∧ PR (w1.heap.size + 1) w1.heap.size ws { h2 with sz := m } v2 ∧ Kept [w1.heap.size] W1 ws) (fun kv _ => 7 - (intOf kv).toNat)
              case atStart => exact ⟨0, 0, rfl, by omega, by omega, by simp [bnd], by simp [bnd], rfl, HS0.out.1, HS0.out.2⟩
              case round =>
                clear g0 g1 g2 gf
                obtain ⟨k, m, rfl, hk7, hkx, hm1, hm2, hsf, hpr, hkk⟩ := hrel
                have hbk := bnd_le k hk7
                have HM := Lib.hid (And.intro hm1 (And.intro hm2 hsf))
                have hm1' : -300000000 ≤ m := by omega
                have hm2' : m ≤ 300000000 := by omega
                have HPS := Lib.hid (And.intro hpr hkk)
                obtain ⟨g0, g1, g2⟩ := hpr.cells
                have gf := hpr.free
                clear hm1 hm2 hsf hpr hkk hbk
                by_cases hkl : k < xz.length
                · have hkl' : (k : Int) < xz.length := by omega
                  by_cases hk6 : k < 7
                  · have hk6' : (k : Int) < 7 := by omega
                    have HSS := Lib.hid (sizeF_step k xz m hk6 hkl)
                    have hcb := byteAt_le xz k
                    obtain ⟨cc, hcc⟩ : ∃ c, byteAt xz k = c := ⟨_, rfl⟩
                    rw [hcc] at HSS hcb
                    obtain ⟨hcb1, hcb2⟩ := hcb
                    have wr1 : IntKind.i64.wrap (10 * m) = 10 * m := IntWalk.i64_in _ (by omega)
                    have wr2 : IntKind.i64.wrap (10 * m + (cc.toNat : Int)) = 10 * m + (cc.toNat : Int) := IntWalk.i64_in _ (by omega)
                    have wr3 : IntKind.i64.wrap (10 * m + (cc.toNat : Int) - 48) = 10 * m + (cc.toNat : Int) - 48 := IntWalk.i64_in _ (by omega)
                    go_wp2_with (fail)
                    go_region
                    have HN2 := Lib.hid (And.intro ((HPS.out.1.setSize (10 * m + (cc.toNat : Int) - 48)).kept ((Kept.refl _ _).drew)) ((HPS.out.2.setCell (p := ⟨w1.heap.size, 2, none⟩) (.inl (by simp)) (I (10 * m + (cc.toNat : Int) - 48))).drew))
                    have HB2 : Hid (-(bnd (k + 1)) ≤ 10 * m + (cc.toNat : Int) - 48 ∧ 10 * m + (cc.toNat : Int) - 48 ≤ bnd (k + 1)) := Lib.hid (by
                      have h1 := HM.out.1
                      have h2 := HM.out.2.1
                      have e : bnd (k + 1) = 10 * bnd k + 207 := rfl
                      rw [e]; omega)
                    clear wr1 wr2 wr3 g0 g1 g2 gf
                    go_wp2
                    go_roundw
                    case rel => exact ⟨k + 1, 10 * m + (cc.toNat : Int) - 48, by go_num, by omega, by omega, HB2.out.1, HB2.out.2, by rw [← HSS.out]; exact HM.out.2.2, HN2.out.1, HN2.out.2⟩
                    case measure => simp [intOf]; omega
                  · have hk6' : ¬ (k : Int) < 7 := by omega
                    have hk6d := decide_eq_false hk6'
                    have HSE : Hid (WX.sizeF 7 xz 0 = m) := Lib.hid (HM.out.2.2.symm.trans (sizeF_end k xz m (by omega) hk7))
                    go_wp2_with (fail)
                    go_meet
                    exact ⟨by go_num, by rw [HSE.out]; exact hm1', by rw [HSE.out]; exact hm2', by rw [HSE.out]; exact HPS.out.1, HPS.out.2⟩
                · have HSE : Hid (WX.sizeF 7 xz 0 = m) := Lib.hid (HM.out.2.2.symm.trans (sizeF_end k xz m (by omega) hk7))
                  have hkd : decide (k < xz.length) = false := decide_eq_false hkl
                  go_wp2_with (fail)
                  go_meet
                  exact ⟨by go_num, by rw [HSE.out]; exact hm1', by rw [HSE.out]; exact hm2', by rw [HSE.out]; exact HPS.out.1, HPS.out.2⟩
          case rest =>
          obtain ⟨rfl, hs1, hs2, hpr1, hkk1⟩ := hcut
          obtain ⟨w4, hw4⟩ : ∃ w4, w4 = wc := ⟨_, rfl⟩
          subst hw4
          have HP3 := Lib.hid (And.intro hpr1 (And.intro hkk1 (And.intro hs1 hs2)))
          have c2 := low_cell (HC.out i hlt) HW1.out.2.2.1 hkk1
          rw [HL.out] at c2
          clear g0 g1 g2 gf hpr1 hkk1 hs1 hs2 c1
          go_wp2_with (fail)
          go_loopw [9, 18] (fun tv kv ws => ∃ (k : Nat) (b : Bool), kv = I k ∧ tv = .bool b ∧ k ≤ i ∧ b = (tw || (ls.take k).contains l) ∧ Kept [] w4 ws) (fun _ kv _ => i - (intOf kv).toNat)
          case atStart => exact ⟨0, tw, rfl, rfl, by omega, by simp, Kept.refl _ _⟩
          case round =>
            obtain ⟨k, b, rfl, rfl, hki, hb, hks⟩ := hrel
            have HB3 := Lib.hid (And.intro hb hks)
            have c3 := cellOf_kept hks c2
            clear hb hks c2
            by_cases hkl : k < i
            · have hkl' : (k : Int) < i := by omega
              have hkd : k < ls.length := by omega
              have hkd' : (k : Int) < ls.length := by omega
              have c4 := cellOf_kept HB3.out.2 (low_cell (HC.out k hkd) HW1.out.2.2.1 HP3.out.2.1)
              have HCS := Lib.hid (contains_snoc ls k hkd l)
              obtain ⟨d2, hd2'⟩ : ∃ d, ls.getD k [] = d := ⟨_, rfl⟩
              rw [hd2'] at c4 HCS
              clear hd2'
              obtain ⟨x, hx⟩ : ∃ x, (l == d2) = x := ⟨_, rfl⟩
              cases b with
              | true =>
                clear hx
                go_wp2_with (fail)
                go_quiet (fail)
                go_wp2_with (fail)
                go_roundw
                case rel => exact ⟨k + 1, true, by go_num, rfl, by omega, by rw [HCS.out, ← Bool.or_assoc, ← HB3.out.1]; rfl, HB3.out.2.drewN _⟩
                case measure => simp [intOf]; omega
              | false =>
                have HX := Lib.hid hx
                go_wp2_with (fail)
                go_quiet (fail)
                go_wp2_with (fail)
                go_roundw
                case rel => exact ⟨k + 1, x, by go_num, rfl, by omega, by rw [HCS.out, ← Bool.or_assoc, ← HB3.out.1, HX.out]; rfl, HB3.out.2.drewN _⟩
                case measure => simp [intOf]; omega
            · obtain rfl : k = i := by omega
              have HNN : Hid (n1 = WX.kindN WX.nameP (ls.take (k + 1)) ∧ z1 = WX.kindN WX.sizeP (ls.take (k + 1))) := Lib.hid ⟨by rw [HK1.out bn HBB.out.1, ← HQ.out.1]; exact HN1.out.1.symm, by rw [HK2.out bz HBB.out.2.2, ← HQ.out.2.1]; exact HN1.out.2.symm⟩
              have hn13 : n1 ≤ 3000 := by rw [HNN.out.1]; have := kindN_le WX.nameP (ls.take (k + 1)); rw [List.length_take] at this; omega
              have hz13 : z1 ≤ 3000 := by rw [HNN.out.2]; have := kindN_le WX.sizeP (ls.take (k + 1)); rw [List.length_take] at this; omega
              go_wp2_with (fail)
              go_roundw
              case rel => exact ⟨k + 1, n1, z1, b, h3, v2, by go_num, rfl, rfl, rfl, by omega, hn13, hz13, HNN.out.1, HNN.out.2, by rw [HND.out, ← HQ.out.2.2.1, HB3.out.1], by rw [HFS.out, ← HQ.out.2.2.2.1, HH3.out], HTA2.out, hd3, HP3.out.2.2.1, HP3.out.2.2.2, HP3.out.1.kept HB3.out.2, HP3.out.2.1.trans' (HB3.out.2.mono (by simp))⟩
              case measure => simp [intOf]; omega
      · obtain rfl : i = ls.length := by omega
        have hq := HQ.out
        rw [List.take_length] at hq
        have HPRR : Hid (r = if n = 0 ∨ z = 0 ∨ h.ds.length = 0 then (WX.zeroR, 212) else if (tw || (decide (1 < n) || decide (1 < z))) = true then (WX.zeroR, 211) else if WX.printF h = (s, 0) then (h, 0) else (WX.zeroR, 210)) := Lib.hid (by
          rw [← HR.out]
          have := parseR_rest HEN.out (by rw [HLD.out]; exact hq.2.2.2.2.1) h (by rw [HLD.out]; exact hq.2.2.2.1.symm)
          rw [HLD.out, ← hq.1, ← hq.2.1] at this
          rw [this]; congr 2
          unfold WX.twiceB
          rw [hq.2.2.1, hq.1, hq.2.1]; rfl)
        have HLEN : Hid (h.nm.length ≤ 3000 ∧ ∀ d ∈ h.ds, d.length ≤ 3000) := Lib.hid (by
          rw [hq.2.2.2.1]
          exact fold_len 3000 ls WX.zeroR (fun l hl => by have := HLN.out l hl; omega) ⟨by simp [WX.zeroR], by simp [WX.zeroR]⟩)
        obtain ⟨p2, c2, rfl⟩ := HP.out.1.own.form
        have hds' : (h.ds.length : Int) ≤ 3000 := by omega
        obtain ⟨nd, hnd⟩ : ∃ b, decide (n = 0 ∨ z = 0 ∨ h.ds.length = 0) = b := ⟨_, rfl⟩
        obtain ⟨tt, htt⟩ : ∃ b, (tw || (decide (1 < n) || decide (1 < z))) = b := ⟨_, rfl⟩
        have HNT := Lib.hid (And.intro hnd htt)
        have HR0 := Lib.hid (HP.out.2.at HW1.out.2.1 (by have := H1.out.2.2; simp; omega))
        have HRK := Lib.hid (HW1.out.2.2.2.1.new1 HP.out.2 (by have := H1.out.2.2; omega))
        obtain ⟨g0, g1, g2⟩ := HP.out.1.cells
        clear hq hnd htt
        go_upto_region 31 with (fail)
        go_cut [135] from 124 to 134 (fun v wx => v = .bool nd ∧ wx = wr)
        case first =>
          by_cases n0 : n = 0
          · have n0b : ((n : Int) == 0) = true := by rw [beq_iff_eq]; omega
            have HX : Hid (nd = true) := Lib.hid (by rw [← HNT.out.1]; exact decide_eq_true (.inl n0))
            clear n0
            go_wp2_with (fail)
            all_goals (go_meet; exact ⟨by rw [HX.out], rfl⟩)
          · have n0b : ((n : Int) == 0) = false := by rw [beq_eq_false_iff_ne]; omega
            by_cases z0 : z = 0
            · have z0b : ((z : Int) == 0) = true := by rw [beq_iff_eq]; omega
              have HX : Hid (nd = true) := Lib.hid (by rw [← HNT.out.1]; exact decide_eq_true (.inr (.inl z0)))
              clear n0 z0
              go_wp2_with (fail)
              all_goals (go_meet; exact ⟨by rw [HX.out], rfl⟩)
            · have z0b : ((z : Int) == 0) = false := by rw [beq_eq_false_iff_ne]; omega
              obtain ⟨db, hdb⟩ : ∃ b, ((h.ds.length : Int) == 0) = b := ⟨_, rfl⟩
              have HX : Hid (nd = db) := Lib.hid (by
                rw [← HNT.out.1, ← hdb, Bool.eq_iff_iff, decide_eq_true_iff, beq_iff_eq]; omega)
              clear n0 z0
              go_wp2_with (fail)
              all_goals (go_meet; exact ⟨by rw [HX.out], rfl⟩)
        case rest =>
        obtain ⟨rfl, hwc0⟩ := hcut
        replace hwc0 := hwc0.symm
        subst hwc0
        cases nd with
        | true =>
          have HX : Hid (r = (WX.zeroR, 212)) := Lib.hid (by rw [HPRR.out, if_pos (of_decide_eq_true HNT.out.1)])
          obtain ⟨y0, y1, y2⟩ := cells3r HR0.out
          have zf := fun i => free_at HR0.out i
          go_wp2_with (fail)
          exact rparse_end (h := WX.zeroR) (zero_stored HR0.out (S []) nilV (I 0)) (OwnT.nil _ _) (HRK.out.set3 (Nat.le_refl _) _ _ _) HX.out rfl rfl
        | false =>
        go_upto_region 33 with (fail)
        go_cut [145] from 137 to 144 (fun v wx => v = .bool tt ∧ wx = wr)
        case first =>
          obtain ⟨b1, hb1'⟩ : ∃ b, decide ((n : Int) > 1) = b := ⟨_, rfl⟩
          obtain ⟨b2, hb2'⟩ : ∃ b, decide ((z : Int) > 1) = b := ⟨_, rfl⟩
          have HX : Hid (tt = (tw || (b1 || b2))) := Lib.hid (by
            rw [← HNT.out.2, ← hb1', ← hb2']
            congr 2
            · rw [Bool.eq_iff_iff, decide_eq_true_iff, decide_eq_true_iff]; omega
            · rw [Bool.eq_iff_iff, decide_eq_true_iff, decide_eq_true_iff]; omega)
          have hb1n : decide (1 < n) = b1 := by rw [← hb1', Bool.eq_iff_iff, decide_eq_true_iff, decide_eq_true_iff]; omega
          have hb2n : decide (1 < z) = b2 := by rw [← hb2', Bool.eq_iff_iff, decide_eq_true_iff, decide_eq_true_iff]; omega
          cases tw
          · cases b1
            · go_wp2_with (fail)
              all_goals (go_meet; exact ⟨by rw [HX.out]; rfl, rfl⟩)
            · go_wp2_with (fail)
              all_goals (go_meet; exact ⟨by rw [HX.out]; rfl, rfl⟩)
          · go_wp2_with (fail)
            all_goals (go_meet; exact ⟨by rw [HX.out]; rfl, rfl⟩)
        case rest =>
        obtain ⟨rfl, hwc0⟩ := hcut
        replace hwc0 := hwc0.symm
        subst hwc0
        cases tt with
        | true =>
          have HX : Hid (r = (WX.zeroR, 211)) := Lib.hid (by rw [HPRR.out, if_neg (of_decide_eq_false HNT.out.1), if_pos HNT.out.2])
          obtain ⟨y0, y1, y2⟩ := cells3r HR0.out
          have zf := fun i => free_at HR0.out i
          go_wp2_with (fail)
          exact rparse_end (h := WX.zeroR) (zero_stored HR0.out (S []) nilV (I 0)) (OwnT.nil _ _) (HRK.out.set3 (Nat.le_refl _) _ _ _) HX.out rfl rfl
        | false =>
          obtain ⟨t2, e2, hr2⟩ : ∃ t e, WX.printF h = (t, e) := ⟨_, _, rfl⟩
          have HX : Hid (r = if (t2, e2) = (s, (0 : Int)) then (h, 0) else (WX.zeroR, 210)) := Lib.hid (by rw [HPRR.out, if_neg (of_decide_eq_false HNT.out.1), if_neg (by rw [HNT.out.2]; simp), hr2])
          have HPC := Lib.hid (rprint_any h (.slice p2 h.ds.length c2) wr (HP.out.1.own.texts (by omega)) (by have := HLEN.out.1; omega) (fun d hd => by have := HLEN.out.2 d hd; omega) (by have := HQ.out.2.2.2.2.2.1; omega) (by have := HQ.out.2.2.2.2.2.2; omega) (t2, e2) hr2)
          clear hr2
          go_wp2_with (fail)
          refine HPC.out.mono ?_
          rintro e w5 ⟨rfl, k5⟩
          have HR5 := Lib.hid (And.intro (k5.at HR0.out (by simp)) (And.intro (HRK.out.trans' k5) (HP.out.1.kept k5)))
          obtain ⟨y0, y1, y2⟩ := cells3r HR5.out.1
          have zf := fun i => free_at HR5.out.1 i
          obtain ⟨x0, x1, x2⟩ := HR5.out.2.2.cells
          clear k5 g0 g1 g2
          by_cases he : e2 = 0
          · have heb : (e2 != 0) = false := by rw [bne_eq_false_iff_eq]; exact he
            by_cases hts : t2 = s
            · have htb : (t2 == s) = true := by rw [beq_iff_eq]; exact hts
              have HXX : Hid (r = (h, 0)) := Lib.hid (by rw [HX.out, hts, he, if_pos rfl])
              clear he hts
              go_wp2_with (fail)
              exact rparse_end (h := h) (zero_stored HR5.out.1 (S h.nm) (.slice p2 h.ds.length c2) (I h.sz)) ((HR5.out.2.2.own.keptS ((((Kept.refl [w.heap.size] w5).setCell (p := ⟨w.heap.size, 0, none⟩) (.inl (by simp)) (S h.nm)).setCell (p := ⟨w.heap.size, 1, none⟩) (.inl (by simp)) (.slice p2 h.ds.length c2)).setCell (p := ⟨w.heap.size, 2, none⟩) (.inl (by simp)) (I h.sz)) (by have := H1.out.2.2; simp; omega)).mono (by have := H1.out.2.2; omega)) (HR5.out.2.1.set3 (Nat.le_refl _) _ _ _) HXX.out rfl rfl
            · have htb : (t2 == s) = false := by rw [beq_eq_false_iff_ne]; exact hts
              have HXX : Hid (r = (WX.zeroR, 210)) := Lib.hid (by rw [HX.out, if_neg (by simp [hts])])
              clear he hts
              go_wp2_with (fail)
              exact rparse_end (h := WX.zeroR) (zero_stored HR5.out.1 (S []) nilV (I 0)) (OwnT.nil _ _) (HR5.out.2.1.set3 (Nat.le_refl _) _ _ _) HXX.out rfl rfl
          · have heb : (e2 != 0) = true := by rw [bne_iff_ne]; exact he
            have HXX : Hid (r = (WX.zeroR, 210)) := Lib.hid (by rw [HX.out, if_neg (by simp [he])])
            clear he
            go_wp2_with (fail)
            exact rparse_end (h := WX.zeroR) (zero_stored HR5.out.1 (S []) nilV (I 0)) (OwnT.nil _ _) (HR5.out.2.1.set3 (Nat.le_refl _) _ _ _) HXX.out rfl rfl
end Go.Proofs.YtgdioalhlmnhhaaDoor
