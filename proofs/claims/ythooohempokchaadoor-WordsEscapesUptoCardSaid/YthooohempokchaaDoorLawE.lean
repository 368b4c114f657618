/- Walks and lemmas on the program of this seat, used by its statements; each theorem bears its own conditions. -/
import Derived.Test.YthooohempokchaaDoorLawD
namespace Go.Proofs.YthooohempokchaaDoor
open Go.RowKit
set_option linter.unusedVariables false
set_option linter.unusedSimpArgs false
/-! ### WordsPaths -/
theorem rpath_yes (s : List UInt8) (ns : List (List UInt8)) (w : World) (h : WX.pathF s = some ns) (hs : s.length ≤ 1048576) :
    Calls Tryd.prog 15 #[S s] w fun e w' => ∃ v, e = .returned (.tuple #[v, I 0]) ∧ StrsAt w' v ns ∧ Kept [] w w' :=
  (rpath_any s w hs).mono fun e w' hp => by
    unfold RPathPost at hp; rw [h] at hp; obtain ⟨⟨v, h1, h2⟩, h3⟩ := hp; exact ⟨v, h1, h2, h3⟩
theorem rpath_bad (s : List UInt8) (w : World) (h : WX.pathF s = none) (hs : s.length ≤ 1048576) :
    Calls Tryd.prog 15 #[S s] w fun e w' => e = .returned (.tuple #[.slice none 0 0, I 10]) ∧ Kept [] w w' :=
  (rpath_any s w hs).mono fun e w' hp => by unfold RPathPost at hp; rw [h] at hp; exact hp
theorem rjoin_at (v : Value) (ns : List (List UInt8)) (o : List UInt8) (k : Int) (w : World) (hj : WX.joinF ns = (o, k)) (h : StrsAt w v ns) (hm : ∀ n ∈ ns, n.length ≤ 4611686018427387904) :
    Calls Tryd.prog 19 #[v] w fun e w' => e = .returned (.tuple #[S o, I k]) ∧ Kept [] w w' := by
  have := rjoin_any v ns w h hm; rw [hj] at this; exact this
set_option maxHeartbeats 2000000 in
set_option maxRecDepth 100000 in
theorem pathsLaw_any (s : List UInt8) (lv : Value) (l : List (List UInt8)) (w : World) (hs : s.length ≤ 1048576) (hl : StrsAt w lv l) (hm : ∀ n ∈ l, n.length ≤ 1048576) (hT : Tabs w) :
    Calls Tryd.prog 4 #[S s, lv] w fun e w' => e = .returned (.bool true) ∧ Kept [] w w' := by
  obtain ⟨o, hj⟩ : ∃ o, WX.joinF l = o := ⟨_, rfl⟩
  obtain ⟨o, ek⟩ := o
  have HT := Lib.hid (And.intro hT (And.intro hl (And.intro hj (fun n hn => Nat.le_trans (hm n hn) (by decide) : ∀ n ∈ l, n.length ≤ 4611686018427387904))))
  have e1 : (o == o) = true := by simp
  have e2 : (ek == ek) = true := by simp
  clear hT hl hm hj
  cases hp : WX.pathF s with
  | none =>
    have HP := Lib.hid hp
    clear hp
    go_enter Tryd.func4, Tryd.ntmps4
    go_wp2_with (fail)
    refine (rpath_bad s w HP.out hs).mono ?_
    rintro e w1 ⟨rfl, k1⟩
    have H1 := Lib.hid k1
    clear k1
    go_wp2_with (fail)
    go_loopw [7, 8, 9, 10] (fun t _ _ _ wr => ∃ k : Nat, k ≤ 2 ∧ t = I k ∧ Kept [] w wr) (fun t _ _ _ _ => 2 - (intOf t).toNat)
    case atStart => exact ⟨0, by omega, rfl, H1.out⟩
    case round =>
      obtain ⟨k, hk, rfl, hkw⟩ := hrel
      have HK := Lib.hid hkw
      clear hkw
      by_cases hlt : k < 2
      · have hlt' : (k : Int) < 2 := by omega
        go_wp2_with (fail)
        refine (path_bad s wr HP.out (by omega) (HT.out.1.kept HK.out)).mono ?_
        rintro e w2 ⟨rfl, k2⟩
        have H2 := Lib.hid (HK.out.trans' k2)
        clear k2
        go_wp2_with (fail)
        refine (same_at _ _ [] [] true w2 rfl (StrsAt.nil _) (StrsAt.nil _)).mono ?_
        rintro e w3 ⟨rfl, k3⟩
        have H3 := Lib.hid (H2.out.trans' k3)
        clear k3
        go_wp2_with (fail)
        go_loop [10] (fun i => i = I 0) (fun _ => 0)
        case atStart => exact rfl
        case round =>
          subst hrel
          go_wp2
          go_roundw
          case rel => exact ⟨k + 1, by omega, by go_num, H3.out⟩
          case measure => (simp [intOf]; try omega)
      · obtain rfl : k = 2 := by omega
        go_wp2_with (fail)
        refine (join_at lv l o ek wr HT.out.2.2.1 (HT.out.2.1.kept HK.out) HT.out.2.2.2 (HT.out.1.kept HK.out)).mono ?_
        rintro e w4 ⟨rfl, k4⟩
        have H4 := Lib.hid (HK.out.trans' k4)
        clear k4
        go_wp2_with (fail)
        refine (rjoin_at lv l o ek w4 HT.out.2.2.1 (HT.out.2.1.kept H4.out) HT.out.2.2.2).mono ?_
        rintro e w5 ⟨rfl, k5⟩
        have H5 := Lib.hid (H4.out.trans' k5)
        clear k5
        go_wp2_with (fail)
        refine (fixed_any w5 (HT.out.1.kept H5.out)).mono ?_
        rintro e w6 ⟨rfl, k6⟩
        have H6 := Lib.hid (H5.out.trans' k6)
        clear k6
        go_wp2
        go_ret
        exact ⟨rfl, H6.out⟩
  | some ns =>
    have HP := Lib.hid hp
    clear hp
    go_enter Tryd.func4, Tryd.ntmps4
    go_wp2_with (fail)
    refine (rpath_yes s ns w HP.out hs).mono ?_
    rintro e w1 ⟨mv, rfl, sm, k1⟩
    have H1 := Lib.hid (And.intro sm k1)
    clear k1 sm
    go_wp2_with (fail)
    go_loopw [7, 8, 9, 10] (fun t _ _ _ wr => ∃ k : Nat, k ≤ 2 ∧ t = I k ∧ Kept [] w1 wr) (fun t _ _ _ _ => 2 - (intOf t).toNat)
    case atStart => exact ⟨0, by omega, rfl, Kept.refl _ _⟩
    case round =>
      obtain ⟨k, hk, rfl, hkw⟩ := hrel
      have HK := Lib.hid (And.intro hkw (H1.out.2.trans' hkw))
      have Z0 := hkw.size
      clear hkw
      by_cases hlt : k < 2
      · have hlt' : (k : Int) < 2 := by omega
        go_wp2_with (fail)
        refine (path_yes s ns wr HP.out (by omega) (HT.out.1.kept HK.out.2)).mono ?_
        rintro e w2 ⟨kv, rfl, nk, k2⟩
        have ak := nk.at
        have H2 := Lib.hid (And.intro nk (And.intro (HK.out.1.trans' k2) (And.intro ak (H1.out.1.kept (HK.out.1.trans' k2)))))
        clear k2 nk ak
        go_wp2_with (fail)
        refine (same_at kv mv ns ns true w2 (by simp) H2.out.2.2.1 H2.out.2.2.2).mono ?_
        rintro e w3 ⟨rfl, k3⟩
        have hnk := H2.out.1
        rcases hnk with ⟨hns, rfl⟩ | ⟨b, hb, rfl, h8, hblk⟩
        · have H3 := Lib.hid (H2.out.2.1.trans' k3)
          clear k3 hns
          go_wp2_with (fail)
          go_loop [10] (fun i => i = I 0) (fun _ => 0)
          case atStart => exact rfl
          case round =>
            subst hrel
            go_wp2
            go_roundw
            case rel => exact ⟨k + 1, by omega, by go_num, H3.out⟩
            case measure => (simp [intOf]; try omega)
        · have hblk3 := k3.at hblk (by simp)
          have H3 := Lib.hid (And.intro (H2.out.2.1.trans' k3) hblk3)
          have hbz : w1.heap.size ≤ b := by omega
          have h8' : (ns.length : Int) ≤ 8 := by omega
          clear k3 hblk hblk3
          go_wp2_with (fail)
          obtain ⟨wo, rfl⟩ : ∃ wo : World, wo = wr := ⟨_, rfl⟩
          go_loopw [10] (fun i wr => ∃ (j : Nat) (cs : Array Value), j ≤ ns.length ∧ i = I j ∧ cs.size = ns.length ∧ wr.heap[b]? = some (.cells cs 9 (0, 0)) ∧ Kept [] w1 wr) (fun i _ => ns.length - (intOf i).toNat)
          case atStart => exact ⟨0, (ns.map S).toArray, by omega, rfl, by simp, H3.out.2, H3.out.1⟩
          case round =>
            obtain ⟨j, cs, hj, rfl, hcs, hbk, hkw⟩ := hrel
            by_cases hjl : j < ns.length
            · have hjl' : (j : Int) < ns.length := by omega
              have hjc : j < cs.size := by omega
              have x1 : wr.cell? ⟨b, j, none⟩ = some (cs[j]) := by rw [cell_at hbk, Array.getElem?_eq_getElem hjc]
              have x2 : wr.frozen? ⟨b, j, none⟩ = false := free_at hbk j
              obtain ⟨u, hu⟩ : ∃ u, cs[j] = u := ⟨_, rfl⟩
              rw [hu] at x1
              have HB := Lib.hid (And.intro hbk (And.intro hkw hcs))
              clear hbk hkw hu hcs
              go_wp2
              go_roundw
              case rel =>
                refine ⟨j + 1, cs.setIfInBounds j _, by omega, by go_num, by rw [Array.size_setIfInBounds]; exact HB.out.2.2, heap_setCell_at HB.out.1 j _, HB.out.2.1.setCell (.inr hbz) _⟩
              case measure => (simp [intOf]; try omega)
            · have HB := Lib.hid hkw
              have hjl' : ¬ (j : Int) < ns.length := by omega
              clear hkw hbk hcs
              go_wp2
              go_roundw
              case rel => exact ⟨k + 1, by omega, by go_num, HB.out⟩
              case measure => (simp [intOf]; try omega)
      · obtain rfl : k = 2 := by omega
        go_wp2_with (fail)
        refine (join_at lv l o ek wr HT.out.2.2.1 (HT.out.2.1.kept HK.out.2) HT.out.2.2.2 (HT.out.1.kept HK.out.2)).mono ?_
        rintro e w4 ⟨rfl, k4⟩
        have H4 := Lib.hid (HK.out.2.trans' k4)
        clear k4
        go_wp2_with (fail)
        refine (rjoin_at lv l o ek w4 HT.out.2.2.1 (HT.out.2.1.kept H4.out) HT.out.2.2.2).mono ?_
        rintro e w5 ⟨rfl, k5⟩
        have H5 := Lib.hid (H4.out.trans' k5)
        clear k5
        go_wp2_with (fail)
        refine (fixed_any w5 (HT.out.1.kept H5.out)).mono ?_
        rintro e w6 ⟨rfl, k6⟩
        have H6 := Lib.hid (H5.out.trans' k6)
        clear k6
        go_wp2
        go_ret
        exact ⟨rfl, H6.out⟩
end Go.Proofs.YthooohempokchaaDoor
