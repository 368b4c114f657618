/- Walks and lemmas on the program of this seat, used by its statements; each theorem bears its own conditions. -/
import Derived.Test.YtgdncdhalnijcaaDoorReB
import Derived.StillTailTactics
import Derived.OwnWalk
namespace Go.Proofs.YtgdncdhalnijcaaDoor
open Go.RowKit
set_option linter.unusedVariables false
set_option linter.unusedSimpArgs false
namespace BD
/-! ### The document's Get, Kind -/
set_option maxRecDepth 100000 in
set_option maxHeartbeats 1000000 in
theorem rget_any (st : Int) (nv vv : Value) (names values : List (List UInt8)) (name : List UInt8) (w : World) (hn : StrsAt w nv names) (hv : StrsAt w vv values) :
    Calls Tryd.prog 19 #[.agg #[I st, nv, vv], S name] w fun e w' => e = .returned (.tuple #[S (getF names values name).1, I (getF names values name).2]) ∧ Kept [] w w' := by
  have HN := hn
  have HV := hv
  obtain ⟨pn, cn, rfl, hnl, hnc⟩ := hn
  obtain ⟨pv, cv, rfl, hvl, hvc⟩ := hv
  have hnl' : (names.length : Int) ≤ 9223372036854775807 := by omega
  have hvl' : (values.length : Int) ≤ 9223372036854775807 := by omega
  have Hn := Lib.hid hnc
  have Hv := Lib.hid hvc
  clear hnc hvc
  go_enter Tryd.func19, Tryd.ntmps19
  go_wp2_with (fail)
  go_loop [6, 7, 8] (fun v n i => ∃ k : Nat, k ≤ names.length ∧ i = I k ∧ v = S (getF (names.take k) values name).1 ∧ n = I (getF (names.take k) values name).2) (fun _ _ i => names.length - (intOf i).toNat)
  case atStart => exact ⟨0, by omega, rfl, rfl, rfl⟩
  case round =>
    obtain ⟨k, hk, rfl, rfl, rfl⟩ := hrel
    have hgl := getF_le (names.take k) values name
    have hgl' : (getF (names.take k) values name).2 ≤ k := by rw [List.length_take] at hgl; omega
    clear hgl
    by_cases hlt : k < names.length
    · obtain ⟨bn, on, rfl, hcn⟩ := Hn.out (by intro h; rw [h] at hlt; simp at hlt)
      have hc := hcn k hlt
      have hbn : bn < w.heap.size := World.block_lt_of_cell? w _ hc
      have hts : names.take (k + 1) = names.take k ++ [names[k]] := by rw [List.take_succ_eq_append_getElem hlt]
      generalize hx : names[k] = x at *
      obtain ⟨v, m, hvm⟩ : ∃ v m, getF (names.take k) values name = (v, m) := ⟨_, _, rfl⟩
      rw [hvm] at hgl' ⊢
      simp only at hgl' ⊢
      have hlk : (names.take k).length = k := by simp; omega
      have HTS := Lib.hid hts
      have HX := Lib.hid hx
      have HVM := Lib.hid hvm
      have HLK := Lib.hid hlk
      clear hts hx hcn hvm hlk
      by_cases hxe : x = name
      · by_cases hm : m = 0
        · by_cases hkv : k < values.length
          · obtain ⟨bv, ov, rfl, hcv⟩ := Hv.out (by intro h; rw [h] at hkv; simp at hkv)
            have hd := hcv k hkv
            have hbv : bv < w.heap.size := World.block_lt_of_cell? w _ hd
            have HD : Hid (getF (names.take (k + 1)) values name = (values[k], 1)) := by
              have h1 := getF_first (names.take k) values name (by rw [HVM.out]; exact hm)
              unfold Hid
              rw [HTS.out, hxe, h1.1, HLK.out]
              simp [hkv]
            generalize hy : values[k] = y at *
            clear hcv hy
            subst hxe hm
            go_wp2_with (fail)
            go_round
            case rel => exact ⟨k + 1, by omega, by go_num, by rw [HD.out], by rw [HD.out]; rfl⟩
            case measure => simp [intOf]; omega
          · have HD : Hid (getF (names.take (k + 1)) values name = (v, 1)) := by
              have h1 := getF_first (names.take k) values name (by rw [HVM.out]; exact hm)
              have h2 := h1.2
              rw [HVM.out] at h2
              unfold Hid
              rw [HTS.out, hxe, h1.1, HLK.out]
              simp at h2
              rw [h2, List.getD_eq_getElem?_getD, List.getElem?_eq_none (by omega)]
              rfl
            subst hxe hm
            go_wp2_with (fail)
            go_round
            case rel => exact ⟨k + 1, by omega, by go_num, by rw [HD.out], by rw [HD.out]; rfl⟩
            case measure => simp [intOf]; omega
        · have HD : Hid (getF (names.take (k + 1)) values name = (v, m + 1)) := by
            have h1 := getF_again (names.take k) values name (by rw [HVM.out]; simp only; omega)
            unfold Hid
            rw [HTS.out, hxe, h1, HVM.out]
          have hm0 : ((m : Int) == 0) = false := by simp; omega
          subst hxe
          go_wp2_with (fail)
          go_round
          case rel => exact ⟨k + 1, by omega, by go_num, by rw [HD.out], by rw [HD.out]; go_num⟩
          case measure => simp [intOf]; omega
      · have HD : Hid (getF (names.take (k + 1)) values name = (v, m)) := by
          unfold Hid
          rw [HTS.out, getF_no _ _ _ _ hxe, HVM.out]
        have hxb : (x == name) = false := by simpa using hxe
        clear hxe
        go_wp2_with (fail)
        go_round
        case rel => exact ⟨k + 1, by omega, by go_num, by rw [HD.out], by rw [HD.out]⟩
        case measure => simp [intOf]; omega
    · go_wp2_with (fail)
      go_ret2
      have : names.take k = names := List.take_of_length_le (by omega)
      rw [this]
      exact ⟨rfl, (Kept.refl _ _).alloc _⟩

theorem getF_len (names values : List (List UInt8)) (name : List UInt8) (b : Nat) (h : ∀ s ∈ values, s.length ≤ b) : (getF names values name).1.length ≤ b := by
  unfold getF
  cases names.findIdx? (· == name) with
  | none => simp
  | some i =>
    simp only
    by_cases hi : i < values.length
    · have : values.getD i [] = values[i] := by simp [List.getD, hi]
      rw [this]; exact h _ (List.getElem_mem hi)
    · have : values.getD i [] = [] := by simp [List.getD]; rw [List.getElem?_eq_none (by omega)]; rfl
      rw [this]; simp
def SmallSays : Prop := ∀ (s : List UInt8) (w : World), s.length ≤ 9223372036854775807 → Calls Tryd.prog 20 #[S s] w fun e w' => e = .returned (S (s.map lowerB)) ∧ Kept [] w w'
def KindPost (w : World) (r : Int × Int × Int) (e : Ending) (w' : World) : Prop := e = .returned (.tuple #[I r.1, I r.2.1, I r.2.2]) ∧ Kept [] w w'
theorem KindPost.of {w w' : World} {r : Int × Int × Int} {a b c : Int} (h : r = (a, b, c)) (k : Kept [] w w') : KindPost w r (.returned (.tuple #[I a, I b, I c])) w' := by subst h; exact ⟨rfl, k⟩
set_option maxRecDepth 100000 in
set_option maxHeartbeats 2000000 in
theorem kind_any (hS : SmallSays) (st : Int) (nv vv : Value) (names values : List (List UInt8)) (w : World) (hn : StrsAt w nv names) (hv : StrsAt w vv values) (hvs : ∀ s ∈ values, s.length ≤ 9223372036854775807) :
    Calls Tryd.prog 6 #[.agg #[I st, nv, vv]] w (KindPost w (kindF st names values)) := by
  obtain ⟨te, nte, hte⟩ : ∃ te nte, getF names values teName = (te, nte) := ⟨_, _, rfl⟩
  obtain ⟨cl, ncl, hcl⟩ : ∃ cl ncl, getF names values clName = (cl, ncl) := ⟨_, _, rfl⟩
  have hle := getF_le names values teName
  have hlc := getF_le names values clName
  have hte64 := getF_len names values teName _ hvs
  have hcl64 := getF_len names values clName _ hvs
  have hnl : names.length ≤ 9223372036854775807 := by obtain ⟨_, _, _, h, _⟩ := hn; exact h
  rw [hte] at hle hte64
  rw [hcl] at hlc hcl64
  simp only at hle hlc hte64 hcl64
  have hcl64' : (cl.length : Int) ≤ 9223372036854775807 := by omega
  have HT64 := Lib.hid hte64
  clear hte64 hcl64
  have HN : Hid (kindF st names values = if st < 200 ∨ st = 204 ∨ st = 304 then (0, 0, 0)
      else if 0 < nte then (if 1 < nte ∨ 0 < ncl ∨ isChunked te = false then (0, 0, 180) else (1, -1, 0))
      else if 0 < ncl then (if 1 < ncl ∨ lengthF cl < 0 then (0, 0, 180) else if 1048576 < lengthF cl then (0, 0, 181) else (2, lengthF cl, 0))
      else (3, -1, 0)) := by
    unfold Hid kindF; rw [hte, hcl]
  have HTE := Lib.hid hte
  have HCL := Lib.hid hcl
  have hA : Kept [] w (w.alloc (.cells #[I st, nv, vv] 24)) := (Kept.refl _ _).alloc _
  have HA := Lib.hid hA
  have HH := Lib.hid (And.intro hn hv)
  clear hte hcl hA hn hv
  go_enter Tryd.func6, Tryd.ntmps6
  go_wp2_with (fail)
  have g1 := rget_any st nv vv names values teName (w.alloc (.cells #[I st, nv, vv] 24)) (HH.out.1.kept HA.out) (HH.out.2.kept HA.out)
  rw [HTE.out] at g1
  have G1 := Lib.hid g1
  clear g1
  refine G1.out.mono ?_
  rintro e w1 ⟨rfl, k1⟩
  have hb1 : w1.heap[w.heap.size]? = some (.cells #[I st, nv, vv] 24) := k1.at (heap_new _ _) (by simp)
  have c10 : w1.cell? ⟨w.heap.size, 0, none⟩ = some (I st) := by rw [cell_at hb1]; rfl
  have c11 : w1.cell? ⟨w.heap.size, 1, none⟩ = some nv := by rw [cell_at hb1]; rfl
  have c12 : w1.cell? ⟨w.heap.size, 2, none⟩ = some vv := by rw [cell_at hb1]; rfl
  have K1 := HA.out.trans' k1
  have HB1 := Lib.hid hb1
  clear hb1 k1
  go_wp2_with (fail)
  have g2 := rget_any st nv vv names values clName w1 (HH.out.1.kept K1) (HH.out.2.kept K1)
  rw [HCL.out] at g2
  have G2 := Lib.hid g2
  clear g2
  refine G2.out.mono ?_
  rintro e w2 ⟨rfl, k2⟩
  have hb2 : w2.heap[w.heap.size]? = some (.cells #[I st, nv, vv] 24) := k2.at HB1.out (by simp)
  have c20 : w2.cell? ⟨w.heap.size, 0, none⟩ = some (I st) := by rw [cell_at hb2]; rfl
  have K2 := Lib.hid (K1.trans' k2)
  clear hb2 k2 c10 c11 c12 HB1 K1
  by_cases hst : st < 200 ∨ st = 204 ∨ st = 304
  · have hr : Hid (kindF st names values = (0, 0, 0)) := by unfold Hid; rw [HN.out, if_pos hst]
    have hcs : st < 200 ∨ 200 ≤ st ∧ (st == 204) = true ∨ 200 ≤ st ∧ (st == 204) = false ∧ (st == 304) = true := by
      rcases hst with h | h | h
      · exact .inl h
      · subst h; exact .inr (.inl ⟨by decide, rfl⟩)
      · subst h; exact .inr (.inr ⟨by decide, rfl, rfl⟩)
    clear hst HN
    rcases hcs with h1 | ⟨h1, h2⟩ | ⟨h1, h2, h3⟩
    all_goals
      go_wp2_with (fail)
      go_ret3
      exact KindPost.of hr.out K2.out
  have h200 : 200 ≤ st := by omega
  have h204 : (st == 204) = false := by simp; omega
  have h304 : (st == 304) = false := by simp; omega
  have HN2 := HN.out
  rw [if_neg hst] at HN2
  have HN3 := Lib.hid HN2
  clear HN HN2 hst
  by_cases hte : 0 < nte
  · have hte' : (0 : Int) < nte := by omega
    have HN2 := HN3.out
    rw [if_pos hte] at HN2
    have HN4 := Lib.hid HN2
    clear HN2 HN3 hte
    by_cases h1 : 1 < nte
    · have h1' : (1 : Int) < nte := by omega
      have hr : Hid (kindF st names values = (0, 0, 180)) := by unfold Hid; rw [HN4.out, if_pos (.inl h1)]
      go_wp2_with (fail)
      go_ret3
      exact KindPost.of hr.out K2.out
    have h1' : ¬ (1 : Int) < nte := by omega
    by_cases h2 : 0 < ncl
    · have h2' : (0 : Int) < ncl := by omega
      have hr : Hid (kindF st names values = (0, 0, 180)) := by unfold Hid; rw [HN4.out, if_pos (.inr (.inl h2))]
      go_wp2_with (fail)
      go_ret3
      exact KindPost.of hr.out K2.out
    have h2' : ¬ (0 : Int) < ncl := by omega
    have HN5 : Hid (kindF st names values = if isChunked te = false then (0, 0, 180) else (1, -1, 0)) := by
      unfold Hid; rw [HN4.out]
      simp only [h1, h2, false_or]
    clear h1 h2 HN4
    go_wp2_with (fail)
    refine (hS te w2 HT64.out).mono ?_
    rintro e w3 ⟨rfl, k3⟩
    have K3 := Lib.hid (K2.out.trans' k3)
    clear k3
    obtain ⟨m, hm⟩ : ∃ m, te.map lowerB = m := ⟨_, rfl⟩
    rw [hm]
    cases hch : isChunked te with
    | false =>
      have hr : Hid (kindF st names values = (0, 0, 180)) := by unfold Hid; rw [HN5.out, if_pos hch]
      have hmb : (m == [99, 104, 117, 110, 107, 101, 100]) = false := by rw [← hm]; exact hch
      clear hm hch
      go_wp2_with (fail)
      go_ret3
      exact KindPost.of hr.out K3.out
    | true =>
      have hr : Hid (kindF st names values = (1, -1, 0)) := by unfold Hid; rw [HN5.out, if_neg (by simp [hch])]
      have hmb : (m == [99, 104, 117, 110, 107, 101, 100]) = true := by rw [← hm]; exact hch
      clear hm hch
      go_wp2_with (fail)
      go_ret3
      exact KindPost.of hr.out K3.out
  have hte' : ¬ (0 : Int) < nte := by omega
  have HN2 := HN3.out
  rw [if_neg hte] at HN2
  have HN4 := Lib.hid HN2
  clear HN2 HN3 hte
  by_cases hcl0 : ncl = 0
  · have hcb : ((ncl : Int) == 0) = true := by simp [hcl0]
    have hr : Hid (kindF st names values = (3, -1, 0)) := by unfold Hid; rw [HN4.out, if_neg (by omega)]
    clear hcl0
    go_wp2_with (fail)
    go_ret3
    exact KindPost.of hr.out K2.out
  have hcb : ((ncl : Int) == 0) = false := by simp; omega
  have HN5 : Hid (kindF st names values = if 1 < ncl ∨ lengthF cl < 0 then (0, 0, 180) else if 1048576 < lengthF cl then (0, 0, 181) else (2, lengthF cl, 0)) := by
    unfold Hid; rw [HN4.out, if_pos (by omega)]
  clear hcl0 HN4
  go_wp2_with (fail)
  go_loop [9, 10] (fun n i => ∃ k : Nat, k ≤ cl.length ∧ k ≤ 10 ∧ i = I k ∧ n = I (digs (cl.take k)) ∧ (cl.take k).all isDig = true) (fun _ i => 10 - (intOf i).toNat)
  case atStart => exact ⟨0, by omega, by omega, rfl, rfl, rfl⟩
  case round =>
    obtain ⟨k, hk, hk10, rfl, rfl, hall⟩ := hrel
    have hbd := digs_bd (cl.take k) hall k (by simp; omega)
    rw [List.take_take, Nat.min_self] at hbd
    have HA := Lib.hid hall
    clear hall
    by_cases hgo : k < cl.length ∧ k < 10
    · obtain ⟨hlt, hl10⟩ := hgo
      have hl10' : (k : Int) < 10 := by omega
      have hp := pow10_le k (by omega)
      obtain ⟨hb0, hb1⟩ : 0 ≤ digs (cl.take k) ∧ digs (cl.take k) < 1000000000 := by omega
      have hsn := all_take_snoc cl k hlt
      have hds : digs (cl.take (k + 1)) = 10 * digs (cl.take k) + ((cl[k].toNat : Int) - 48) := by rw [List.take_succ_eq_append_getElem hlt, digs_snoc]
      have hmem : cl[k] ∈ cl := List.getElem_mem _
      obtain ⟨c, hc⟩ : ∃ c, cl[k] = c := ⟨_, rfl⟩
      rw [hc] at hsn hds hmem
      have hcl2 : c.toNat < 256 := c.toNat_lt
      have HS := Lib.hid hsn
      have HD := Lib.hid hds
      have HM := Lib.hid hmem
      generalize digs (cl.take k) = d at *
      clear hsn hds hmem hbd hp
      by_cases hdg : 48 ≤ c.toNat ∧ c.toNat ≤ 57
      · have hdd : isDig c = true := by simp [isDig, hdg]
        obtain ⟨h1, h2⟩ := hdg
        have h1' : (48 : Int) ≤ c.toNat := by omega
        have h2' : (c.toNat : Int) ≤ 57 := by omega
        go_wp2_with (fail)
        go_round
        case rel => exact ⟨_, _, _, _, _, ⟨k + 1, by omega, by omega, rfl, rfl, List.all_eq_true.1 (by rw [HS.out, HA.out, hdd]; rfl)⟩, rfl, rfl, rfl, by rw [HD.out], by go_num⟩
        case measure => simp [intOf]; omega
      · have hdd : isDig c = false := by simp only [isDig, decide_eq_false_iff_not]; exact hdg
        have HE : Hid (lengthF cl < 0) := by
          unfold Hid lengthF
          split
          · decide
          · rw [if_neg]
            · decide
            · intro h
              have := (List.all_eq_true.1 h) c HM.out
              rw [hdd] at this; cases this
        have hr : Hid (kindF st names values = (0, 0, 180)) := by unfold Hid; rw [HN5.out, if_pos (.inr HE.out)]
        by_cases hlo : (48 : Int) ≤ c.toNat
        · have hhi : ¬ (c.toNat : Int) ≤ 57 := by omega
          clear hdg
          go_wp2_with (fail)
          go_ret3
          exact KindPost.of hr.out K2.out
        · clear hdg
          go_wp2_with (fail)
          go_ret3
          exact KindPost.of hr.out K2.out
    · have hex : ¬ (k : Int) < cl.length ∨ ((k : Int) < cl.length ∧ ¬ (k : Int) < 10) := by omega
      have HG := Lib.hid (And.intro hk hgo)
      clear hgo
      by_cases h1 : 1 < ncl
      · have h1' : (1 : Int) < ncl := by omega
        have hr : Hid (kindF st names values = (0, 0, 180)) := by unfold Hid; rw [HN5.out, if_pos (.inl h1)]
        clear hbd
        rcases hex with hex | ⟨hex, hex2⟩
        all_goals
          go_wp2_with (fail)
          go_ret3
          exact KindPost.of hr.out K2.out
      have h1' : ¬ (1 : Int) < ncl := by omega
      by_cases h0 : (cl.length : Int) < 1
      · have hr : Hid (kindF st names values = (0, 0, 180)) := by
          unfold Hid; rw [HN5.out, if_pos (.inr (by unfold lengthF; rw [if_pos (.inl (List.eq_nil_of_length_eq_zero (by omega)))]; decide))]
        clear hbd
        rcases hex with hex | ⟨hex, hex2⟩
        all_goals
          go_wp2_with (fail)
          go_ret3
          exact KindPost.of hr.out K2.out
      by_cases h9 : (9 : Int) < cl.length
      · have hr : Hid (kindF st names values = (0, 0, 180)) := by
          unfold Hid; rw [HN5.out, if_pos (.inr (by unfold lengthF; rw [if_pos (.inr (by omega))]; decide))]
        clear hbd
        rcases hex with hex | ⟨hex, hex2⟩
        all_goals
          go_wp2_with (fail)
          go_ret3
          exact KindPost.of hr.out K2.out
      have hkl : k = cl.length := by omega
      have ht : cl.take k = cl := List.take_of_length_le (by omega)
      have HLF : Hid (lengthF cl = digs cl) := by
        unfold Hid lengthF
        rw [if_neg (by rintro (h | h); (rw [h] at h0; simp at h0); omega), if_pos (by have := HA.out; rwa [ht] at this)]
      have hp := pow10_le k (by omega)
      rw [ht] at hbd ⊢
      obtain ⟨hb0, hb1⟩ : 0 ≤ digs cl ∧ digs cl < 1000000000 := by omega
      have hexk : ¬ (k : Int) < cl.length := by omega
      clear hbd hp ht hex hkl
      by_cases hbig : 1048576 < digs cl
      · have hr : Hid (kindF st names values = (0, 0, 181)) := by unfold Hid; rw [HN5.out, HLF.out, if_neg (by omega), if_pos hbig]
        go_wp2_with (fail)
        go_ret3
        exact KindPost.of hr.out K2.out
      · have hr : Hid (kindF st names values = (2, digs cl, 0)) := by unfold Hid; rw [HN5.out, HLF.out, if_neg (by omega), if_neg hbig]
        go_wp2_with (fail)
        go_ret3
        exact KindPost.of hr.out K2.out
end BD
end Go.Proofs.YtgdncdhalnijcaaDoor
