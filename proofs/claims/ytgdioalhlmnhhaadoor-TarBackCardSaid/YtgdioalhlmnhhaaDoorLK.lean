/- Walks and lemmas on the program of this seat, used by its statements; each theorem bears its own conditions. -/
import Derived.Test.YtgdioalhlmnhhaaDoorTJ
import Derived.Test.YtgdioalhlmnhhaaDoorGI
import Derived.Handy
import Derived.Deep.CutRange
namespace Go.Proofs.YtgdioalhlmnhhaaDoor
open Go.RowKit
set_option linter.unusedVariables false
set_option linter.unusedSimpArgs false
/-! ### takes: a part read in pieces -/
set_option maxHeartbeats 16000000
set_option maxRecDepth 100000
def Track (P : List UInt8) (dat : Bool) (st : Nat → TX.Rd) : Prop :=
  ∀ j k, j < P.length → 0 < k → j + k ≤ P.length → TX.writeF (st j) ((P.take (j + k)).drop j) = ⟨k, if dat then (P.take (j + k)).drop j else [], 0, st (j + k)⟩ ∧ TX.OkR (st j)
theorem takes_any (b : Nat) (P : List UInt8) (dat : Bool) (cut : Int) (st : Nat → TX.Rd) (w : World) (hst : Track P dat st) (h : RdAt w b (st 0)) (hM : ML w) (hP : P.length ≤ 1000000) :
    Calls Tryd.prog 27 #[Ptr b, .agg #[S P, .bool dat], I cut] w fun e w' => e = .returned (.bool true) ∧ RdAt w' b (st P.length) ∧ Kept [b] w w' := by
  have hP' : (P.length : Int) ≤ 1000000 := by omega
  have H0 := Lib.hid (And.intro hst (And.intro h (And.intro hM (And.intro h.lt hP))))
  clear hst h hM hP
  go_enter Tryd.func27, Tryd.ntmps27
  go_wp2_with (fail)
  go_loopw [7] (fun av wr => ∃ j : Nat, av = I j ∧ j ≤ P.length ∧ RdAt wr b (st j) ∧ wr.heap[w.heap.size]? = some (.cells #[S P, .bool dat] 50 (0, 0)) ∧ Kept [b] w wr) (fun a _ => P.length - (intOf a).toNat)
  case atStart => exact ⟨0, rfl, by omega, H0.out.2.1.kept ((Kept.refl [] w).alloc _) (by simp), heap_new w _, (Kept.refl [b] w).alloc _⟩
  case round =>
    obtain ⟨j, rfl, hj, hr, hbox, hk⟩ := hrel
    have HH := Lib.hid (And.intro hr (And.intro hbox hk))
    have c0 := cell_at hbox 0
    have c1 := cell_at hbox 1
    simp only [List.getElem?_toArray, List.getElem?_cons_zero, List.getElem?_cons_succ] at c0 c1
    clear hr hbox hk
    rcases Nat.eq_or_lt_of_le hj with he | hlt
    · subst he
      go_wp2_with (fail)
      go_ret
      exact ⟨rfl, HH.out.1, HH.out.2.2⟩
    · have hlt' : (j : Int) < P.length := by omega
      go_upto_if 24 with (fail)
      go_cut [8] from 22 to 29 (fun v wx => ∃ k : Nat, v = I k ∧ 0 < k ∧ j + k ≤ P.length ∧ wx = wr)
      case first =>
        obtain ⟨m, hm⟩ : ∃ m : Nat, cut % 256 = (m : Int) := ⟨(cut % 256).toNat, by omega⟩
        have hm2 : m < 256 := by omega
        by_cases hc : cut % 8 > 0
        · have hw : wrap64 ((m : Int) + 1) = (m : Int) + 1 := by unfold wrap64; omega
          go_wp2_with (fail)
          all_goals (go_meet; refine ⟨min (P.length - j) (m + 1), ?_, by omega, by omega, rfl⟩; congr 1; omega)
        · go_wp2_with (fail)
          all_goals (go_meet; refine ⟨P.length - j, ?_, by omega, by omega, rfl⟩; congr 1; omega)
      case rest =>
        obtain ⟨k, rfl, hk0, hk1, hwc⟩ := hcut
        replace hwc := hwc.symm
        subst hwc
        obtain ⟨hwr, hok⟩ := H0.out.1 j k hlt hk0 hk1
        have hk1' : (j : Int) + k ≤ P.length := by omega
        obtain ⟨Q, hQ⟩ : ∃ Q, (P.take (j + k)).drop j = Q := ⟨_, rfl⟩
        rw [hQ] at hwr
        have hQl : Q.length ≤ 4611686018427387904 := by rw [← hQ, List.length_drop, List.length_take]; have := H0.out.2.2.2.2; omega
        have HW := Lib.hid (And.intro hwr (And.intro hok hQl))
        have HKK := Lib.hid (And.intro hk0 hk1)
        clear hwr hok hQl
        go_wp2_with (fail)
        refine (write_any b (st j) Q wr HH.out.1 HW.out.2.1 (H0.out.2.2.1.keptR H0.out.2.1 HH.out.2.2) HW.out.2.2).mono ?_
        rw [HW.out.1]
        rintro e w3 ⟨rfl, r3, k3⟩
        have hne : w.heap.size ≠ b := by have := H0.out.2.2.2.1; omega
        have hbox3 := k3.at HH.out.2.1 (by simpa using hne)
        have H3 := Lib.hid (And.intro r3 (And.intro hbox3 (HH.out.2.2.trans' k3)))
        have d0 := cell_at hbox3 0
        have d1 := cell_at hbox3 1
        simp only [List.getElem?_toArray, List.getElem?_cons_zero, List.getElem?_cons_succ] at d0 d1
        clear c0 c1 r3 k3 hne hbox3
        cases dat with
        | true =>
          dsimp only [VW]
          go_wp2_with (fail)
          all_goals
            go_roundw
            case rel => exact ⟨j + k, by go_num, by omega, H3.out.1, H3.out.2.1, H3.out.2.2⟩
            case measure => (simp [intOf]; omega)
        | false =>
          dsimp only [VW]
          go_wp2_with (fail)
          all_goals
            go_roundw
            case rel => exact ⟨j + k, by go_num, by omega, H3.out.1, H3.out.2.1, H3.out.2.2⟩
            case measure => (simp [intOf]; omega)
/-! ### Tracks: what a reader does with a part, piece by piece -/
theorem piece_len (P : List UInt8) (j k : Nat) (h : j + k ≤ P.length) : ((P.take (j + k)).drop j).length = k := by rw [List.length_drop, List.length_take]; omega
theorem piece_ne (P : List UInt8) (j k : Nat) (h : j + k ≤ P.length) (hk : 0 < k) : (P.take (j + k)).drop j ≠ [] := fun e => by
  have := piece_len P j k h; rw [e] at this; simp at this; omega
theorem piece_app (P : List UInt8) (j k : Nat) : P.take j ++ (P.take (j + k)).drop j = P.take (j + k) := by
  conv => lhs; rw [show P.take j = (P.take (j + k)).take j by rw [List.take_take, Nat.min_eq_left (by omega)]]
  exact List.take_append_drop _ _
/-- A reader that stands at the beginning of a block. -/
def base (nm : List UInt8) (sz en mn : Int) : TX.Rd := ⟨[], nm, sz, 0, 0, en, mn, 0⟩
def blockSt (nm : List UInt8) (sz en mn : Int) (P : List UInt8) (r' : TX.Rd) (j : Nat) : TX.Rd := if j < 512 then ⟨P.take j, nm, sz, 0, 0, en, mn, 0⟩ else r'
theorem track_block (nm : List UInt8) (sz en mn : Int) (P : List UInt8) (r' : TX.Rd) (hP : P.length = 512) (hen : en ≠ 2) (hok : TX.OkR (base nm sz en mn)) (he : (TX.parseL P).e = 0)
    (hfin : ((TX.parseL P).en = true ∧ r' = base nm sz (en + 1) mn) ∨ ((TX.parseL P).en = false ∧ en = 0 ∧ r' = ⟨[], (TX.parseL P).nm, (TX.parseL P).sz, (TX.parseL P).sz, TX.fillOf (TX.parseL P).sz, en, mn + 1, 0⟩)) :
    Track P false (blockSt nm sz en mn P r') := by
  intro j k hj hk hjk
  have hj5 : j < 512 := by omega
  have hst : blockSt nm sz en mn P r' j = ⟨P.take j, nm, sz, 0, 0, en, mn, 0⟩ := if_pos hj5
  have hl := piece_len P j k hjk
  have hne := piece_ne P j k hjk hk
  have happ := piece_app P j k
  obtain ⟨q, hq⟩ : ∃ q, (P.take (j + k)).drop j = q := ⟨_, rfl⟩
  rw [hq] at hl hne happ ⊢
  have hjl : (P.take j).length = j := by rw [List.length_take]; omega
  refine ⟨?_, ?_⟩
  · rw [hst, wf_head _ _ rfl (by simp [TX.doneB, hen, hne]) (by simp) (by simp)]
    have hmin : min q.length (512 - (P.take j).length) = k := by rw [hl, hjl]; omega
    have htk : q.take k = q := List.take_of_length_le (by omega)
    have hjkl : (P.take (j + k)).length = j + k := by rw [List.length_take]; omega
    have hh : TX.headsF ⟨P.take j, nm, sz, 0, 0, en, mn, 0⟩ q = (if (P.take (j + k)).length < 512 then ⟨k, [], 0, ⟨P.take (j + k), nm, sz, 0, 0, en, mn, 0⟩⟩
      else
        if 0 < en ∧ ((TX.parseL (P.take (j + k))).e ≠ 0 ∨ (TX.parseL (P.take (j + k))).en = false) then ⟨0, [], 200, ⟨[], nm, sz, 0, 0, en, mn, 0⟩⟩
        else if (TX.parseL (P.take (j + k))).e ≠ 0 then ⟨0, [], (TX.parseL (P.take (j + k))).e, ⟨[], nm, sz, 0, 0, en, mn, 0⟩⟩
        else if (TX.parseL (P.take (j + k))).en = true then ⟨k, [], 0, ⟨[], nm, sz, 0, 0, en + 1, mn, 0⟩⟩
        else ⟨k, [], 0, ⟨[], (TX.parseL (P.take (j + k))).nm, (TX.parseL (P.take (j + k))).sz, (TX.parseL (P.take (j + k))).sz, TX.fillOf (TX.parseL (P.take (j + k))).sz, en, mn + 1, 0⟩⟩) := by
      unfold TX.headsF; simp only [hmin, htk, happ]
    rw [hh]
    by_cases h5 : j + k < 512
    · rw [if_pos (by omega)]
      have : blockSt nm sz en mn P r' (j + k) = ⟨P.take (j + k), nm, sz, 0, 0, en, mn, 0⟩ := if_pos h5
      rw [this]; rfl
    · rw [if_neg (by omega)]
      have hfull : P.take (j + k) = P := List.take_of_length_le (by omega)
      have : blockSt nm sz en mn P r' (j + k) = r' := if_neg h5
      rw [this, hfull]
      rcases hfin with ⟨h1, h2⟩ | ⟨h1, h2, h3⟩
      · rw [if_neg (by rw [he, h1]; simp), if_neg (by simpa using he), if_pos h1, h2]; rfl
      · subst h2
        rw [if_neg (by omega), if_neg (by simpa using he), if_neg (by rw [h1]; simp), h3]; rfl
  · rw [hst]
    exact ⟨by show (P.take j).length < 512; omega, hok.sz, hok.lf, hok.fl, hok.en, hok.mn⟩
def dataSt (nm : List UInt8) (sz mn : Int) (j : Nat) : TX.Rd := ⟨[], nm, sz, sz - j, TX.fillOf sz, 0, mn, 0⟩
theorem track_data (nm D : List UInt8) (mn : Int) (hD : D.length ≤ 1048576) (hmn : 0 ≤ mn ∧ mn ≤ 1000000000) : Track D true (dataSt nm D.length mn) := by
  intro j k hj hk hjk
  have hl := piece_len D j k hjk
  have hne := piece_ne D j k hjk hk
  have hfr := TX.fill_range (D.length : Int)
  obtain ⟨q, hq⟩ : ∃ q, (D.take (j + k)).drop j = q := ⟨_, rfl⟩
  rw [hq] at hl hne ⊢
  refine ⟨?_, ⟨by simp [dataSt], ?_, ?_, ?_, by simp [dataSt], hmn⟩⟩
  · rw [wf_data _ _ rfl (by simp [TX.doneB, dataSt, hne]) (by show (0 : Int) < (D.length : Int) - j; omega) k (by rw [hl]; show min k ((D.length : Int) - j).toNat = k; omega)]
    have htk : q.take k = q := List.take_of_length_le (by omega)
    rw [htk]
    simp only [if_true]
    unfold dataSt
    dsimp only
    congr 2
    omega
  · show 0 ≤ (D.length : Int) ∧ (D.length : Int) ≤ 1048576; omega
  · show 0 ≤ (D.length : Int) - j ∧ (D.length : Int) - j ≤ 1048576; omega
  · show 0 ≤ TX.fillOf (D.length : Int) ∧ TX.fillOf (D.length : Int) ≤ 512; omega
def fillSt (nm : List UInt8) (sz mn : Int) (f : Nat) (j : Nat) : TX.Rd := ⟨[], nm, sz, 0, (f : Int) - j, 0, mn, 0⟩
theorem track_fill (nm : List UInt8) (sz mn : Int) (f : Nat) (hf : f ≤ 512) (hsz : 0 ≤ sz ∧ sz ≤ 1048576) (hmn : 0 ≤ mn ∧ mn ≤ 1000000000) : Track (zerosL f) false (fillSt nm sz mn f) := by
  intro j k hj hk hjk
  have hl := piece_len (zerosL f) j k hjk
  have hne := piece_ne (zerosL f) j k hjk hk
  have hz : TX.zerosB ((zerosL f).take (j + k) |>.drop j) = true := by
    unfold TX.zerosB
    rw [List.all_eq_true]
    intro x hx
    have := List.mem_of_mem_take (List.mem_of_mem_drop hx)
    simp [zerosL] at this
    simpa using this.2
  obtain ⟨q, hq⟩ : ∃ q, ((zerosL f).take (j + k)).drop j = q := ⟨_, rfl⟩
  rw [hq] at hl hne hz ⊢
  rw [zerosL_len] at hj hjk
  refine ⟨?_, ⟨by simp [fillSt], hsz, by simp [fillSt], ?_, by simp [fillSt], hmn⟩⟩
  · have htk : q.take k = q := List.take_of_length_le (by omega)
    rw [wf_yes _ _ rfl (by simp [TX.doneB, fillSt, hne]) (by simp [fillSt]) (by show (0 : Int) < (f : Int) - j; omega) k (by rw [hl]; show min k ((f : Int) - j).toNat = k; omega) (by rw [htk]; exact hz)]
    simp only [Bool.false_eq_true, if_false]
    unfold fillSt
    dsimp only
    congr 2
    omega
  · show 0 ≤ (f : Int) - j ∧ (f : Int) - j ≤ 512; omega
end Go.Proofs.YtgdioalhlmnhhaaDoor
