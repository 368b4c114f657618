/- Walks and lemmas on the program of this seat, used by its statements; each theorem bears its own conditions. -/
import Derived.Test.YtgdioalhlmnhhaaDoorTJ
import Derived.Test.YtgdioalhlmnhhaaDoorLR
import Derived.Test.YtgdioalhlmnhhaaDoorGI
import Derived.Handy
import Derived.Deep.CutRange
namespace Go.Proofs.YtgdioalhlmnhhaaDoor
open Go.RowKit
set_option linter.unusedVariables false
set_option linter.unusedSimpArgs false
namespace TX
theorem Inv.e0 {P told : List UInt8} {r : Rd} (h : Inv P told r) : r.e = 0 := by
  cases h <;> assumption
theorem Inv.piece {P told : List UInt8} {r : Rd} (h : Inv P told r) (hd : doneB r = false) (q : List UInt8) :
    (∃ (n : Nat) (d : List UInt8) (r' : Rd), writeF r q = ⟨n, d, 0, r'⟩ ∧ n ≤ q.length ∧ (0 < q.length → 0 < n) ∧ d.length ≤ n ∧ Inv (P ++ q.take n) (told ++ d) r') ∨
    (∃ (e : Int) (r' : Rd), writeF r q = ⟨0, [], e, r'⟩ ∧ e ≠ 0 ∧ r'.e = e ∧ (runR (P ++ q) 0 []).2.2 = e) := by
  by_cases hq : q = []
  · subst hq
    left
    refine ⟨0, [], r, ?_, by simp, by simp, by simp, by simpa using h⟩
    unfold writeF
    rw [if_neg (by simp [h.e0]), if_pos (.inr rfl)]
    rfl
  · obtain ⟨h1, h2⟩ := h.step q hq hd
    obtain ⟨x, hx⟩ : ∃ x, writeF r q = x := ⟨_, rfl⟩
    rw [hx] at h1 h2 ⊢
    obtain ⟨xn, xd, xe, xr⟩ := x
    by_cases he : xe = 0
    · left
      obtain ⟨n, hn, hn1, hn2, hn3, hn4⟩ := h1 he
      simp only at hn hn3 hn4
      subst hn; subst he
      exact ⟨n, xd, xr, rfl, hn2, fun _ => hn1, hn3, hn4⟩
    · right
      obtain ⟨a, b, c, d⟩ := h2 he
      simp only at a b c d
      subst a; subst b
      exact ⟨xe, xr, rfl, he, c, d⟩
theorem lastOf_eq (l : List Fl) (h : 0 < l.length) : lastOf l = l[l.length - 1] := by
  unfold lastOf
  rw [List.getLastD_eq_getLast?, List.getLast?_eq_getElem?, List.getElem?_eq_getElem (by omega)]
  rfl
theorem datas_take (l : List Fl) (j : Nat) (h : j < l.length) : datas (l.take (j + 1)) = datas (l.take j) ++ l[j].dt := by
  rw [List.take_succ_eq_append_getElem h, datas_app]
theorem datas_take_le (l : List Fl) (j : Nat) : (datas (l.take j)).length ≤ (datas l).length := by
  conv => rhs; rw [← List.take_append_drop j l]
  unfold datas; rw [List.flatMap_append, List.length_append]; omega
theorem last_le (l : List Fl) (h : 0 < l.length) : (lastOf l).dt.length ≤ (datas l).length := by
  rw [lastOf_eq l h]
  have := datas_take l (l.length - 1) (by omega)
  rw [show l.length - 1 + 1 = l.length by omega, List.take_length] at this
  rw [this, List.length_append]; omega
end TX
theorem write_err (b : Nat) (r : TX.Rd) (s : List UInt8) (w : World) (h : RdAt w b r) (he : ¬ r.e = 0) :
    Calls Tryd.prog 23 #[Ptr b, S s] w fun e w' => e = .returned (.tuple #[I 0, S [], I r.e]) ∧ RdAt w' b r ∧ Kept [] w w' := by
  obtain ⟨c0, c1, c2, c3, c4, c5, c6, c7⟩ := h.cells
  have HH := Lib.hid h
  clear h
  go_enter Tryd.func23, Tryd.ntmps23
  go_wp2_with (fail)
  go_region
  go_wp2
  go_returns
  exact ⟨rfl, HH.out, (Kept.refl _ _).drew⟩
/-! ### TarReads -/
set_option maxHeartbeats 16000000
set_option maxRecDepth 100000
def left0 : List UInt8 := [108, 101, 102, 116, 32, 98, 101, 104, 105, 110, 100]
def more0 : List UInt8 := [109, 111, 114, 101]
/-- What a round knows of the memory. -/
structure Mem (w0 : World) (b : Nat) (rd : TX.Rd) (cv : Value) (cs : List Int) (w : World) : Prop where
  rd : RdAt w b rd
  kept : Kept [] w0 w
  hb : w0.heap.size ≤ b
  ml : ML w
  ints : IntsAt w cv cs
theorem Mem.go {w0 : World} {b : Nat} {rd : TX.Rd} {cv : Value} {cs : List Int} {w w' : World} (h : Mem w0 b rd cv cs w) (k : Kept [] w w') : Mem w0 b rd cv cs w' :=
  ⟨h.rd.kept k (by simp), h.kept.trans' k, h.hb, h.ml.kept k, h.ints.kept k⟩
theorem readsLaw_any (s : List UInt8) (cv : Value) (cs : List Int) (w : World) (hc : IntsAt w cv cs) (hM : ML w) :
    Calls Tryd.prog 5 #[S s, cv] w fun e w' => e = .returned (.bool true) ∧ Kept [] w w' := by
  obtain ⟨cp, cc, rfl, hcl, hcells⟩ := hc
  have hC0 : IntsAt w (.slice cp cs.length cc) cs := ⟨cp, cc, rfl, hcl, hcells⟩
  have HC := Lib.hid (And.intro hC0 hM)
  clear hcells hM hC0
  by_cases hlen : (s.length : Int) > 20000
  · go_enter Tryd.func5, Tryd.ntmps5
    go_wp2_with (fail)
    refine (fixed_any w HC.out.2).mono ?_
    rintro e w1 ⟨rfl, k1⟩
    go_wp2
    go_ret
    exact ⟨rfl, k1⟩
  have hlen' : (s.length : Int) ≤ 20000 := by omega
  go_enter Tryd.func5, Tryd.ntmps5
  go_wp2_with (fail)
  refine (new_any w).mono ?_
  rintro e w1 ⟨b, rfl, r1, k1, hb1⟩
  have H1 : Hid (Mem w b TX.rd0 (.slice cp cs.length cc) cs w1) := Lib.hid ⟨r1, k1, hb1, HC.out.2.kept k1, HC.out.1.kept k1⟩
  clear r1 k1 hb1 hlen
  go_wp2_with (fail)
  go_loopw [6, 7, 8] (fun av tv iv wr => ∃ (k i : Nat) (told : List UInt8) (rd : TX.Rd), av = I k ∧ tv = S told ∧ iv = I i ∧ k ≤ s.length ∧ i ≤ 3000 ∧ told.length ≤ k ∧ TX.Inv (s.take k) told rd ∧ Mem w b rd (.slice cp cs.length cc) cs wr) (fun _ _ i _ => 3000 - (intOf i).toNat)
  case atStart => exact ⟨0, 0, [], TX.rd0, rfl, rfl, rfl, by omega, by omega, by simp, .head [] 0 [] (by omega) rfl TX.Reach.zero (by simp [TX.rd0]) rfl rfl rfl rfl rfl ⟨rfl, rfl, rfl⟩ rfl (by simp [TX.rd0]) (by simp [TX.rd0]), H1.out⟩
  case round =>
    obtain ⟨k, i, told, rd, rfl, rfl, rfl, hk, hi, htl, hinv, hmem⟩ := hrel
    have HI := Lib.hid (And.intro hinv htl)
    have HM := Lib.hid hmem
    obtain ⟨hok, he0, l0, hl0⟩ := hinv.says (by rw [List.length_take]; omega)
    have HO := Lib.hid hok
    clear hinv hmem hok l0 hl0 he0 htl
    have hk' : (k : Int) ≤ s.length := by omega
    have hi' : (i : Int) ≤ 3000 := by omega
    by_cases hgo : i < 3000 ∧ k < s.length ∧ TX.doneB rd = false
    case neg =>
      by_cases h1 : i < 3000
      · by_cases h2 : k < s.length
        · have h3 : TX.doneB rd = true := by
            cases h : TX.doneB rd with
            | true => rfl
            | false => exact absurd ⟨h1, h2, h⟩ hgo
          have h1' : (i : Int) < 3000 := by omega
          have h2' : (k : Int) < s.length := by omega
          have HD := Lib.hid h3
          clear h3 h1 h2 hgo
          go_wp2_with (fail)
          refine (done_any b rd wr HM.out.rd).mono ?_
          rintro e w2 ⟨rfl, rfl⟩
          rw [HD.out]
          go_wp2_with (fail)
          refine (fixed_any wr HM.out.ml).mono ?_
          rintro e w2 ⟨rfl, k2⟩
          go_wp2
          go_ret
          exact ⟨rfl, HM.out.kept.trans' k2⟩
        · have h1' : (i : Int) < 3000 := by omega
          have h2' : ¬ (k : Int) < s.length := by omega
          clear h1 h2 hgo
          go_wp2_with (fail)
          refine (fixed_any wr HM.out.ml).mono ?_
          rintro e w2 ⟨rfl, k2⟩
          go_wp2
          go_ret
          exact ⟨rfl, HM.out.kept.trans' k2⟩
      · have h1' : ¬ (i : Int) < 3000 := by omega
        clear h1 hgo
        go_wp2_with (fail)
        refine (fixed_any wr HM.out.ml).mono ?_
        rintro e w2 ⟨rfl, k2⟩
        go_wp2
        go_ret
        exact ⟨rfl, HM.out.kept.trans' k2⟩
    obtain ⟨h1, h2, h3⟩ := hgo
    have h1' : (i : Int) < 3000 := by omega
    have h2' : (k : Int) < s.length := by omega
    have HD := Lib.hid h3
    clear h3 h1 h2 hi' hk'
    go_wp2_with (fail)
    refine (done_any b rd wr HM.out.rd).mono ?_
    rintro e w2 ⟨rfl, rfl⟩
    rw [HD.out]
    go_upto_if 59 with (fail)
    go_cut [9] from 56 to 66 (fun v wx => ∃ q : Nat, v = I q ∧ k + q ≤ s.length ∧ wx = wr)
    case first =>
      by_cases hic : i < cs.length
      · obtain ⟨p2, c2, hv2, _, hcell2⟩ := HM.out.ints
        injection hv2 with e1 e2 e3
        have hne : cs ≠ [] := by intro e; rw [e] at hic; simp at hic
        obtain ⟨cb, co, hcp, hcl2⟩ := hcell2 hne
        have hcell := hcl2 i hic
        rw [hcp] at e1
        subst e1
        have hic' : (i : Int) < cs.length := by omega
        obtain ⟨m, hm⟩ : ∃ m, cs.getD i 0 = m := ⟨_, rfl⟩
        rw [hm] at hcell
        clear hcl2 hcell2 hne hm hcp e2 e3 hic
        obtain ⟨q, hq⟩ : ∃ q : Nat, min ((s.length : Int) - k) (m % 1024) = (q : Int) := ⟨(min ((s.length : Int) - k) (m % 1024)).toNat, by omega⟩
        have hql : k + q ≤ s.length := by omega
        clear hi hk
        go_wp2_with (fail)
        go_meet
        exact ⟨q, rfl, hql, rfl⟩
      · have hic' : ¬ (i : Int) < cs.length := by omega
        clear hic hi
        go_wp2_with (fail)
        go_meet
        exact ⟨s.length - k, by go_num, by omega, rfl⟩
    case rest =>
      obtain ⟨q, rfl, hq, hwc⟩ := hcut
      replace hwc := hwc.symm
      subst hwc
      have hq' : (k : Int) + q ≤ s.length := by omega
      have hPq : s.take k ++ (s.take (k + q)).drop k = s.take (k + q) := by
        conv => lhs; rw [show s.take k = (s.take (k + q)).take k by rw [List.take_take, Nat.min_eq_left (by omega)]]
        exact List.take_append_drop _ _
      have hPn : ∀ n, n ≤ q → s.take k ++ ((s.take (k + q)).drop k).take n = s.take (k + n) := fun n hn => by
        rw [List.drop_take, List.take_take, Nat.min_eq_left (by omega), List.take_add]
      have hql : ((s.take (k + q)).drop k).length = q := by rw [List.length_drop, List.length_take]; omega
      have hpc := HI.out.1.piece HD.out ((s.take (k + q)).drop k)
      rw [hPq, hql] at hpc
      obtain ⟨Q, hQ⟩ : ∃ Q, (s.take (k + q)).drop k = Q := ⟨_, rfl⟩
      rw [hQ] at hpc hPn hql
      have HQ := Lib.hid (And.intro hPn (And.intro hql hQ))
      have HPC := Lib.hid hpc
      clear hpc hPn hql hPq
      go_wp2_with (fail)
      refine (clone_any b rd wr HM.out.rd).mono ?_
      rintro e w2 ⟨b2, rfl, r2, k2, hb2⟩
      have hbb : b ≠ b2 := by have := HM.out.rd.lt; omega
      have H2 := Lib.hid (And.intro (HM.out.go k2) (And.intro r2 (And.intro (Nat.le_trans HM.out.kept.size hb2) hbb)))
      clear r2 k2 hb2 hbb
      go_wp2_with (fail)
      obtain ⟨x, hx⟩ : ∃ x, TX.writeF rd Q = x := ⟨_, rfl⟩
      have hpc := HPC.out
      rw [hx] at hpc
      have HPD := Lib.hid hpc
      clear hpc HPC
      refine (write_any b rd Q w2 H2.out.1.rd HO.out H2.out.1.ml (by have := HQ.out.2.1; omega)).mono ?_
      rw [hx]
      rintro e w3 ⟨rfl, r3, k3⟩
      have kk3 : Kept [] w w3 := H2.out.1.kept.new1 k3 H2.out.1.hb
      have H3 := Lib.hid (And.intro r3 (And.intro kk3 (And.intro (H2.out.2.1.kept k3 (by simp; exact fun e => H2.out.2.2.2 e.symm)) (HC.out.2.kept kk3))))
      clear r3 k3 kk3 hx
      go_wp2_with (fail)
      refine (write_any b2 rd left0 w3 H3.out.2.2.1 HO.out H3.out.2.2.2 (by simp [left0])).mono ?_
      obtain ⟨y, hy⟩ : ∃ y, TX.writeF rd left0 = y := ⟨_, rfl⟩
      rw [hy]
      clear hy
      rintro e w4 ⟨rfl, _, k4⟩
      have kk4 : Kept [] w w4 := H3.out.2.1.new1 k4 H2.out.2.2.1
      have H4 : Hid (Mem w b x.r (.slice cp cs.length cc) cs w4) := Lib.hid ⟨H3.out.1.kept k4 (by simp; exact H2.out.2.2.2), kk4, HM.out.hb, HC.out.2.kept kk4, HC.out.1.kept kk4⟩
      clear k4 kk4
      rcases HPD.out with ⟨n, d, r', hx, hn, hn0, hdl, hinv⟩ | ⟨er, r', hx, her, hre, hrun⟩
      · subst hx
        have HI2 := Lib.hid (And.intro hinv (And.intro hn (And.intro hn0 hdl)))
        clear hinv hn hn0 hdl HPD
        obtain ⟨hinv, hn, hn0, hdl⟩ := HI2.out
        rw [HQ.out.1 n hn] at hinv
        have hkn : k + n ≤ s.length := by omega
        have htl : (told ++ d).length ≤ k + n := by rw [List.length_append]; have := HI.out.2; omega
        obtain ⟨hok2, he2, l, hrun, htd, hmn, hnm, hsz, hlf⟩ := hinv.says (by rw [List.length_take]; omega)
        have hlk : (s.take (k + n)).length ≤ 1000000 := by rw [List.length_take]; omega
        have hdat : (TX.datas l).length ≤ 20000 := by rw [← htd]; omega
        have HF := Lib.hid (And.intro hrun (And.intro hlk (And.intro htd (And.intro hmn (And.intro hnm (And.intro hsz (And.intro hlf hdat)))))))
        have HI3 := Lib.hid (And.intro hinv (And.intro htl hkn))
        have hszb := hok2.sz
        have hdl' : (d.length : Int) ≤ n := by omega
        have hn' : (n : Int) ≤ q := by omega
        have hsum : told.length + d.length ≤ 9223372036854775807 := by rw [List.length_append] at htl; omega
        have hkn' : (k : Int) + n ≤ s.length := by omega
        have hq0 : q = 0 ∨ 0 < n := by rcases Nat.eq_zero_or_pos q with h | h; exact .inl h; exact .inr (hn0 h)
        have HSB := Lib.hid (And.intro hszb hok2.mn)
        clear hinv hn hn0 hdl htl hkn hok2 he2 hrun htd hmn hnm hsz hlf hlk hdat HI2 hszb
        dsimp only [VW]
        go_upto_region 20 with (fail)
        go_cut [9, 11, 12, 146] from 126 to 145 (fun vq vn vd v wx => vq = I q ∧ vn = I n ∧ vd = S d ∧ v = .bool false ∧ wx = w4)
        case first =>
          rcases hq0 with hq0 | hq0
          · have hn00 : n = 0 := by omega
            have hd0 : d = [] := List.eq_nil_of_length_eq_zero (by omega)
            subst hq0
            subst hn00
            subst hd0
            go_wp2_with (fail)
            all_goals (go_meet; exact ⟨rfl, rfl, rfl, rfl, rfl⟩)
          · have hn1 : ¬ (n : Int) = 0 := by omega
            have hq1 : (0 : Int) < q := by omega
            go_wp2_with (fail)
            all_goals
              go_meet
              refine ⟨rfl, rfl, rfl, ?_, rfl⟩
              first
                | rfl
                | (congr 1; simp only [Bool.or_eq_false_iff, decide_eq_false_iff_not, beq_eq_false_iff_ne]; omega)
        case rest =>
          obtain ⟨rfl, rfl, rfl, rfl, hwc⟩ := hcut
          replace hwc := hwc.symm
          subst hwc
          clear hq0 hn' hdl'
          go_wp2_with (fail)
          refine (run_any (s.take (k + n)) w4 HF.out.2.1 _ HF.out.1).mono ?_
          rintro e w5 ⟨fv, fk, rfl, hfiles, k5⟩
          obtain ⟨fp, fcap, rfl, hfc⟩ := hfiles
          have H5 := Lib.hid (And.intro (H4.out.go k5) hfc)
          obtain ⟨dd, hdd⟩ : ∃ dd, TX.doneB r' = dd := ⟨_, rfl⟩
          have HDD := Lib.hid hdd
          clear k5 hfc
          dsimp only [VR]
          rw [hdd]
          clear hdd
          go_wp2_with (fail)
          refine (done_any b r' w5 H5.out.1.rd).mono ?_
          rintro e w6 ⟨rfl, rfl⟩
          rw [HDD.out]
          go_wp2_with (fail)
          clear hsum
          obtain ⟨hrun, hlk, htd, hmn, hnm, hsz, hlf, hdat⟩ := HF.out
          by_cases hl0 : l = []
          · subst hl0
            have e1 : r'.mn = 0 := by rw [hmn]; rfl
            have e2 : r'.nm = [] := by rw [hnm]; rfl
            have e3 : r'.sz = 0 := by rw [hsz]; rfl
            have e4 : r'.lf = 0 := by rw [hlf]; rfl
            have e5 : told ++ d = [] := by rw [htd]; rfl
            have HF2 := Lib.hid (And.intro e1 (And.intro e2 (And.intro e3 (And.intro e4 e5))))
            clear hrun hlk htd hmn hnm hsz hlf hdat e1 e2 e3 e4 e5
            rw [HF2.out.2.2.2.2]
            go_loop [25, 26] (fun wv jv => wv = S [] ∧ jv = I 0) (fun _ _ => 0)
            case atStart => exact ⟨rfl, rfl⟩
            case round =>
              obtain ⟨rfl, rfl⟩ := hrel
              go_wp2_with (fail)
              refine (file_any b r' w5 H5.out.1.rd).mono ?_
              rw [HF2.out.2.1, HF2.out.2.2.1, HF2.out.2.2.2.1]
              rintro e w7 ⟨rfl, k7⟩
              have H7 := Lib.hid (H5.out.1.go k7)
              clear k7
              go_wp2_with (fail)
              refine (many_any b r' w7 H7.out.rd).mono ?_
              rw [HF2.out.1]
              rintro e w8 ⟨rfl, rfl⟩
              go_wp2_with (fail)
              go_roundw
              case rel => exact ⟨k + n, i + 1, [], r', by go_num, rfl, by go_num, HI3.out.2.2, by omega, by simp, by have := HI3.out.1; rw [HF2.out.2.2.2.2] at this; exact this, H7.out⟩
              case measure => (simp [intOf]; omega)
          · obtain ⟨fb, hfp, hfcell⟩ := H5.out.2 hl0
            subst hfp
            have hlp : 0 < l.length := List.length_pos_iff.2 hl0
            have hll : l.length ≤ 1000000000 := by have := HSB.out.2; omega
            have hlast := TX.lastOf_eq l hlp
            have hlle := TX.last_le l hlp
            have HFC := Lib.hid hfcell
            have HF2 := Lib.hid (And.intro hmn (And.intro hnm (And.intro hsz (And.intro hlf (And.intro htd (And.intro hlast (And.intro hdat hlle)))))))
            clear hrun hlk htd hmn hnm hsz hlf hdat hlast hlle hfcell hl0
            rw [HF2.out.2.2.2.2.1]
            go_loop [25, 26] (fun wv jv => ∃ j : Nat, j ≤ l.length ∧ wv = S (TX.datas (l.take j)) ∧ jv = I j) (fun _ jv => l.length - (intOf jv).toNat)
            case atStart => exact ⟨0, by omega, rfl, rfl⟩
            case round =>
              obtain ⟨j, hj, rfl, rfl⟩ := hrel
              rcases Nat.eq_or_lt_of_le hj with he | hlt
              · subst he
                rw [List.take_length]
                go_wp2_with (fail)
                refine (file_any b r' w5 H5.out.1.rd).mono ?_
                obtain ⟨L, hL⟩ : ∃ L, l[l.length - 1] = L := ⟨_, rfl⟩
                obtain ⟨p, hp⟩ : ∃ p, l.length = p + 1 := ⟨l.length - 1, by omega⟩
                obtain ⟨c1, c2, c3⟩ := HFC.out (l.length - 1) (by omega)
                rw [hL, show l.length - 1 = p by omega] at c1 c2 c3
                obtain ⟨hmn, hnm, hsz, hlf, htd, hlast, hdat, hlle⟩ := HF2.out
                rw [hlast, hL] at hnm hsz hlf hlle
                have hLs := HSB.out.1
                rw [hsz] at hLs
                have hLd : (L.dt.length : Int) ≤ 20000 := by omega
                obtain ⟨hLs0, hLs1⟩ := hLs
                obtain ⟨Ln, Ld, Lz⟩ := L
                dsimp only at c1 c2 c3 hnm hsz hlf hLd hLs0 hLs1
                rw [hnm, hsz, hlf]
                have HF3 := Lib.hid (And.intro hmn (And.intro htd hp))
                have hpp : (p : Int) ≤ 1000000000 := by omega
                rw [hp]
                clear hL hp hmn hnm hsz hlf htd hlast hdat hlle hll hj
                rintro e w7 ⟨rfl, k7⟩
                have H7 := Lib.hid (H5.out.1.go k7)
                have d1 := cellOf_kept k7 c1
                have d2 := cellOf_kept k7 c2
                have d3 := cellOf_kept k7 c3
                clear k7 c1 c2 c3
                go_wp2_with (fail)
                refine (many_any b r' w7 H7.out.rd).mono ?_
                rw [HF3.out.1, HF3.out.2.2]
                rintro e w8 ⟨rfl, rfl⟩
                go_wp2_with (fail)
                go_roundw
                case rel => exact ⟨k + n, i + 1, TX.datas l, r', by go_num, rfl, by go_num, HI3.out.2.2, by omega, by rw [← HF3.out.2.1]; exact HI3.out.2.1, by rw [← HF3.out.2.1]; exact HI3.out.1, H7.out⟩
                case measure => (simp [intOf]; omega)
              · have hlt' : (j : Int) < l.length := by omega
                have hcell := (HFC.out j hlt).2.1
                have hs2 := TX.datas_take_le l j
                have hs3 := TX.datas_take_le l (j + 1)
                have HDT := Lib.hid (TX.datas_take l j hlt)
                rw [HDT.out, List.length_append] at hs3
                obtain ⟨dj, hdj⟩ : ∃ dj, l[j].dt = dj := ⟨_, rfl⟩
                rw [hdj] at hcell HDT hs3
                have hsum : (TX.datas (l.take j)).length + dj.length ≤ 9223372036854775807 := by have := HF2.out.2.2.2.2.2.2.1; omega
                clear hs2 hs3 hdj
                go_wp2_with (fail)
                go_round
                case rel => exact ⟨j + 1, by omega, by rw [HDT.out], by go_num⟩
                case measure => (simp [intOf]; omega)
      · subst hx
        have HE := Lib.hid (And.intro hrun (And.intro hre her))
        have her' : ¬ er = 0 := her
        clear hrun hre her HPD
        dsimp only [VW]
        have hlk : (s.take (k + q)).length ≤ 1000000 := by rw [List.length_take]; omega
        have HLK := Lib.hid hlk
        clear hlk
        go_wp2_with (fail)
        refine (run_any (s.take (k + q)) w4 HLK.out _ rfl).mono ?_
        obtain ⟨rr, hrr⟩ : ∃ rr, TX.runR (s.take (k + q)) 0 [] = rr := ⟨_, rfl⟩
        rw [hrr] at HE ⊢
        rintro e w5 ⟨fv, fk, rfl, _, k5⟩
        have H5 := Lib.hid (H4.out.go k5)
        clear k5 hrr
        obtain ⟨rl, rdn, re⟩ := rr
        have hree : re = er := HE.out.1
        subst hree
        go_wp2_with (fail)
        refine (write_err b r' more0 w5 H5.out.rd (by rw [HE.out.2.1]; exact her')).mono ?_
        rw [HE.out.2.1]
        rintro e w6 ⟨rfl, r6, k6⟩
        have H6 := Lib.hid (H5.out.go k6)
        have hdn : TX.doneB r' = false := by unfold TX.doneB; rw [HE.out.2.1]; simp [her']
        have HDN := Lib.hid hdn
        clear r6 k6 hdn
        go_wp2_with (fail)
        refine (done_any b r' w6 H6.out.rd).mono ?_
        rintro e w7 ⟨rfl, rfl⟩
        rw [HDN.out]
        go_wp2_with (fail)
        refine (fixed_any w6 H6.out.ml).mono ?_
        rintro e w7 ⟨rfl, k7⟩
        go_wp2
        go_ret
        exact ⟨rfl, H6.out.kept.trans' k7⟩
end Go.Proofs.YtgdioalhlmnhhaaDoor
