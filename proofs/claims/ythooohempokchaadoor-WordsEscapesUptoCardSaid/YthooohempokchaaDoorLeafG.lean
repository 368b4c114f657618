/- Walks and lemmas on the program of this seat, used by its statements; each theorem bears its own conditions. -/
import Derived.Test.YthooohempokchaaDoorLeafF
namespace Go.Proofs.YthooohempokchaaDoor
open Go.RowKit
set_option linter.unusedVariables false
set_option linter.unusedSimpArgs false
/-! ### What the document fixes -/
theorem path_yes (l : List UInt8) (ns : List (List UInt8)) (w : World) (h : WX.pathF l = some ns) (hl : l.length < 4294967281) (hT : Tabs w) :
    Calls Tryd.prog 16 #[S l] w fun e w' => ∃ v, e = .returned (.tuple #[v, I 0]) ∧ NewStrs w.heap.size w' v ns ∧ Kept [] w w' :=
  (path_any l w hl hT).mono fun e w' hp => by
    unfold PathPost at hp; rw [h] at hp; obtain ⟨⟨v, h1, h2⟩, h3⟩ := hp; exact ⟨v, h1, h2, h3⟩
theorem path_bad (l : List UInt8) (w : World) (h : WX.pathF l = none) (hl : l.length < 4294967281) (hT : Tabs w) :
    Calls Tryd.prog 16 #[S l] w fun e w' => e = .returned (.tuple #[.slice none 0 0, I 10]) ∧ Kept [] w w' :=
  (path_any l w hl hT).mono fun e w' hp => by
    unfold PathPost at hp; rw [h] at hp; exact hp
theorem join_at (v : Value) (ns : List (List UInt8)) (o : List UInt8) (k : Int) (w : World) (hj : WX.joinF ns = (o, k)) (h : StrsAt w v ns) (hm : ∀ n ∈ ns, n.length ≤ 4611686018427387904) (hT : Tabs w) :
    Calls Tryd.prog 18 #[v] w fun e w' => e = .returned (.tuple #[S o, I k]) ∧ Kept [] w w' := by
  have := join_any v ns w h hm hT; rw [hj] at this; exact this
theorem unescape_at (l o : List UInt8) (k : Int) (w : World) (h : WX.unescF l = (o, k)) (hl : l.length ≤ 35184372088832) :
    Calls Tryd.prog 20 #[S l] w fun e w' => e = .returned (.tuple #[S o, I k]) ∧ Kept [] w w' := by
  have := unescape_any l w hl; rw [h] at this; exact this
theorem escape_at (l o : List UInt8) (w : World) (h : WX.escL l = o) (hl : l.length ≤ 35184372088832) :
    Calls Tryd.prog 22 #[S l] w fun e w' => e = .returned (S o) ∧ Kept [] w w' := h ▸ escape_any l w hl
theorem text_at (l : List UInt8) (b : Bool) (w : World) (h : WX.textB l = b) (hl : l.length ≤ 9223372036854775807) (hT : Tabs w) :
    Calls Tryd.prog 11 #[S l] w fun e w' => e = .returned (.bool b) ∧ Kept [] w w' := h ▸ text_any l w hl hT
theorem name_at (l : List UInt8) (b : Bool) (w : World) (h : WX.nameB l = b) (hl : l.length ≤ 4611686018427387904) (hT : Tabs w) :
    Calls Tryd.prog 13 #[S l] w fun e w' => e = .returned (.bool b) ∧ Kept [] w w' := h ▸ name_any l w hl hT
theorem same_at (va vb : Value) (xs ys : List (List UInt8)) (b : Bool) (w : World) (h : decide (xs = ys) = b) (ha : StrsAt w va xs) (hb : StrsAt w vb ys) :
    Calls Tryd.prog 17 #[va, vb] w fun e w' => e = .returned (.bool b) ∧ Kept [] w w' := h ▸ same_any va vb xs ys w ha hb
theorem fx1 : WX.pathF [47, 97, 47, 98] = some [[97], [98]] := by decide +kernel
theorem fx2 : WX.pathF [47] = some [] := by decide +kernel
theorem fx3 : WX.pathF [47, 97, 47] = none := by decide +kernel
theorem fx4 : WX.joinF [[97], [98]] = ([47, 97, 47, 98], 0) := by decide +kernel
theorem fx5 : WX.unescF [92, 120, 52, 49] = ([], 11) := by decide +kernel
theorem fx6 : WX.unescF [97, 92, 92, 92, 110, 92, 120, 102, 102, 195, 169] = ([97, 92, 10, 255, 195, 169], 0) := by decide +kernel
theorem fx7 : WX.escL [97, 92, 10, 255, 195, 169] = [97, 92, 92, 92, 110, 92, 120, 102, 102, 195, 169] := by decide +kernel
theorem fx8 : WX.textB [195, 169] = true := by decide +kernel
theorem fx9 : WX.textB [255] = false := by decide +kernel
theorem fxa : WX.nameB [195, 169] = true := by decide +kernel
theorem fxb : WX.nameB [46, 46] = false := by decide +kernel
theorem ab_at (w w' : World) (b : Nat) (h : w.heap[b]? = some (.cells #[S [97], S [98]] 9 (0, 0))) : StrsAt w (.slice (some ⟨b, 0, none⟩) 2 2) [[97], [98]] := StrsAt.new (ss := [[97], [98]]) h (by decide) (by decide)
set_option maxHeartbeats 2000000 in
set_option maxRecDepth 100000 in
theorem fixed_any (w : World) (hT : Tabs w) : Calls Tryd.prog 10 #[] w fun e w' => e = .returned (.bool true) ∧ Kept [] w w' := by
  have HT := Lib.hid hT
  clear hT
  go_enter Tryd.func10, Tryd.ntmps10
  go_wp2_with (fail)
  refine (path_yes _ _ w fx1 (by decide) HT.out).mono ?_
  rintro e w1 ⟨v1, rfl, n1, k1⟩
  have A1 := n1.at
  have H1 := Lib.hid (And.intro A1 k1)
  clear n1 k1 A1
  go_wp2_with (fail)
  refine (path_yes _ _ w1 fx2 (by decide) (HT.out.kept H1.out.2)).mono ?_
  rintro e w2 ⟨v2, rfl, n2, k2⟩
  obtain ⟨p2, c2, rfl, _⟩ := n2.at
  have H2 := Lib.hid (And.intro (H1.out.1.kept k2) (H1.out.2.trans' k2))
  clear n2 k2
  go_wp2_with (fail)
  refine (path_bad _ w2 fx3 (by decide) (HT.out.kept H2.out.2)).mono ?_
  rintro e w3 ⟨rfl, k3⟩
  have H3 := Lib.hid (And.intro (H2.out.1.kept k3) (H2.out.2.trans' k3))
  clear k3
  go_wp2_with (fail)
  have K4 := (Kept.refl [] w3).alloc (.cells #[S [97], S [98]] 9)
  have H4 := Lib.hid (And.intro (H3.out.1.kept K4) (H3.out.2.trans' K4))
  clear K4
  refine (join_at _ _ _ _ _ fx4 (ab_at _ w _ (heap_new w3 _)) (by decide) (HT.out.kept H4.out.2)).mono ?_
  rintro e w5 ⟨rfl, k5⟩
  have H5 := Lib.hid (And.intro (H4.out.1.kept k5) (H4.out.2.trans' k5))
  clear k5
  go_wp2_with (fail)
  refine (unescape_at _ _ _ w5 fx5 (by decide)).mono ?_
  rintro e w6 ⟨rfl, k6⟩
  have H6 := Lib.hid (And.intro (H5.out.1.kept k6) (H5.out.2.trans' k6))
  clear k6
  go_wp2_with (fail)
  refine (unescape_at _ _ _ w6 fx6 (by decide)).mono ?_
  rintro e w7 ⟨rfl, k7⟩
  have H7 := Lib.hid (And.intro (H6.out.1.kept k7) (H6.out.2.trans' k7))
  clear k7
  go_wp2_with (fail)
  have K8 := (Kept.refl [] w7).alloc (.cells #[S [97], S [98]] 9)
  have H8 := Lib.hid (And.intro (H7.out.1.kept K8) (H7.out.2.trans' K8))
  clear K8
  refine (same_at _ _ _ _ true _ rfl H8.out.1 (ab_at _ w _ (heap_new w7 _))).mono ?_
  rintro e w9 ⟨rfl, k9⟩
  have H9 := Lib.hid (H8.out.2.trans' k9)
  clear k9
  go_wp2_with (fail)
  refine (escape_at _ _ w9 fx7 (by decide)).mono ?_
  rintro e wa ⟨rfl, ka⟩
  have Ha := Lib.hid (H9.out.trans' ka)
  clear ka
  go_wp2_with (fail)
  refine (text_at _ _ wa fx8 (by decide) (HT.out.kept Ha.out)).mono ?_
  rintro e wb ⟨rfl, kb⟩
  have Hb := Lib.hid (Ha.out.trans' kb)
  clear kb
  go_wp2_with (fail)
  refine (text_at _ _ wb fx9 (by decide) (HT.out.kept Hb.out)).mono ?_
  rintro e wc ⟨rfl, kc⟩
  have Hc := Lib.hid (Hb.out.trans' kc)
  clear kc
  go_wp2_with (fail)
  refine (name_at _ _ wc fxa (by decide) (HT.out.kept Hc.out)).mono ?_
  rintro e wd ⟨rfl, kd⟩
  have Hd := Lib.hid (Hc.out.trans' kd)
  clear kd
  go_wp2_with (fail)
  refine (name_at _ _ wd fxb (by decide) (HT.out.kept Hd.out)).mono ?_
  rintro e we ⟨rfl, ke⟩
  have He := Lib.hid (Hd.out.trans' ke)
  clear ke
  go_wp2
  go_ret
  exact ⟨rfl, He.out⟩
end Go.Proofs.YthooohempokchaaDoor
