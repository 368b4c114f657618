/- Walks and lemmas on the program of this seat, used by its statements; each theorem bears its own conditions. -/
import Derived.Test.YteplbljjlbdhaaaGreatDoorZ29
import Derived.Test.YteplbljjlbdhaaaGreatDoorZ25
import Derived.Laws.AppendOwnNone
namespace Go.Proofs.YteplbljjlbdhaaaGreatDoor
open Go.RowKit
set_option linter.unusedVariables false
set_option linter.unusedSimpArgs false
set_option linter.unusedSectionVars false
set_option maxHeartbeats 16000000
set_option maxRecDepth 100000
theorem Kept.grown {a w w' : World} {row : Option Nat} (h : Kept [] a w) (g : w.grownBy w' row) (hr : ∀ k, row = some k → a.heap.size ≤ k) : Kept [] a w' :=
 ⟨g.os.trans h.os, g.tape.trans h.tape, g.output.trans h.output, Nat.le_trans h.size g.size, fun k hk hn =>
  (g.block k (by have := h.size; omega) (fun e => by have := hr k e.symm; omega)).trans (h.block k hk hn)⟩
theorem own_strs {w : World} {base : Nat} {v : Value} {ss : List (List UInt8)} (h : w.ownsRow base 9 1 v ss.length (ss.map S)) (hl : ss.length ≤ 140737488355328) : StrsAt w v ss := by
 rcases h.2 with ⟨rfl, hn⟩ | ⟨g, cap, cur, rfl, hb, hg, hnc, _, hsz, htake⟩
 ·have : ss = [] := List.eq_nil_of_length_eq_zero hn
  subst this; exact StrsAt.nil w
 ·refine ⟨_, cap, rfl, hnc, hl, (fun h => by cases h), fun _ => ⟨g, 0, rfl, fun i hi => ?_⟩⟩
  rw [cell_at hg, Nat.zero_add]
  have h1 : (cur.toList.take (ss.length * 1))[i]? = some (S (ss.getD i [])) := by rw [htake]; simp [List.getD, hi]
  rw [List.getElem?_take_of_lt (by omega)] at h1
  rw [← Array.getElem?_toList]; exact h1
theorem own_empty (w : World) (t : TypeId) : (w.alloc (.cells #[] t)).ownsRow w.heap.size t 1 (.slice (some ⟨w.heap.size, 0, none⟩) 0 0) 0 [] :=
 ⟨rfl, .inr ⟨w.heap.size, 0, #[], rfl, Nat.le_refl _, heap_new w _, Nat.le_refl _, Nat.zero_le _, rfl, rfl⟩⟩
theorem rrune_at (l : List UInt8) (p r m : Nat) (w : World) (h : runeF (l.drop p) = (r, m)) (hp : p < l.length) (hl : l.length ≤ 4611686018427387904) :
  Calls Tryz.prog 163 #[S l, I p] w fun e w' => e = .returned (.tuple #[I r, I m]) ∧ Kept [] w w' := by
 have := rrune_any l p w hp hl; rw [h] at this; exact this
theorem rplain_at (n : Nat) (b : Bool) (w : World) (h : WX.plainN n = b) : Calls Tryz.prog 164 #[I n] w fun e w' => e = .returned (.bool b) ∧ w = w' := h ▸ rplain_any n w
theorem nameU_unit (l : List UInt8) : WX.nameU (WX.unit1 l) = (WX.isOk l && WX.plainN (WX.dec l).1 && (WX.dec l).1 != 47) := by
 unfold WX.unit1 WX.nameU
 cases WX.isOk l <;> simp
theorem rname_any (l : List UInt8) (w : World) (hl : l.length ≤ 4611686018427387904) :
  Calls Tryz.prog 135 #[S l] w fun e w' => e = .returned (.bool (WX.nameB l)) ∧ Kept [] w w' := by
 have hl' : (l.length : Int) ≤ 4611686018427387904 := by omega
 by_cases c1 : l = []
 ·subst c1
  have hr := Lib.hid (nameB_no (l := []) (.inl rfl))
  go_enter Tryz.func135, Tryz.ntmps135
  go_wp2
  go_ret
  exact ⟨ret_B hr.out.symm, Kept.refl _ _⟩
 have hpos : (1 : Int) ≤ l.length := by have := List.length_pos_iff.2 c1; omega
 by_cases c2 : 24 < l.length
 ·have hr := Lib.hid (nameB_no (.inr (.inl c2)))
  have c2' : (24 : Int) < l.length := by omega
  have C1 := Lib.hid c1
  clear c1
  go_enter Tryz.func135, Tryz.ntmps135
  go_wp2
  go_ret
  exact ⟨ret_B hr.out.symm, Kept.refl _ _⟩
 have c2' : ¬ (24 : Int) < l.length := by omega
 by_cases c3 : l = [46]
 ·subst c3
  have hr := Lib.hid (nameB_no (l := [46]) (.inr (.inr (.inl rfl))))
  go_enter Tryz.func135, Tryz.ntmps135
  go_wp2
  go_ret
  exact ⟨ret_B hr.out.symm, Kept.refl _ _⟩
 have e3 : (l == [46]) = false := by simpa using c3
 by_cases c4 : l = [46, 46]
 ·subst c4
  have hr := Lib.hid (nameB_no (l := [46, 46]) (.inr (.inr (.inr (.inl rfl)))))
  go_enter Tryz.func135, Tryz.ntmps135
  go_wp2
  go_ret
  exact ⟨ret_B hr.out.symm, Kept.refl _ _⟩
 have e4 : (l == [46, 46]) = false := by simpa using c4
 have hgo := Lib.hid (nameB_go c1 (by omega) c3 c4)
 clear c1 c2 c3 c4
 go_enter Tryz.func135, Tryz.ntmps135
 go_wp2_with (fail)
 go_loopw [3, 4, 5] (fun a _ _ wr => ∃ p : Nat, p ≤ l.length ∧ a = I p ∧ (WX.units (l.drop p)).all WX.nameU = (WX.units l).all WX.nameU ∧ Kept [] w wr) (fun a _ _ _ => l.length - (intOf a).toNat)
 case atStart => exact ⟨0, by omega, rfl, rfl, Kept.refl _ _⟩
 case round =>
  obtain ⟨p, hp, rfl, hu, hk⟩ := hrel
  have HK := Lib.hid (And.intro hu hk)
  clear hu hk
  by_cases hlt : p < l.length
  ·have hlt' : (p : Int) < l.length := by omega
   have hne := drop_ne hlt
   have hw := WX.dec_width _ hne
   rw [List.length_drop] at hw
   have hall := WX.units_all _ hne WX.nameU
   rw [List.drop_drop, nameU_unit] at hall
   cases ho : WX.isOk (l.drop p) with
   | false =>
    have hr := runeF_no ho
    rw [ho] at hall
    have HA := Lib.hid (And.intro hall hr)
    clear ho hr hall hw hne
    go_wp2_with (fail)
    refine (rrune_at l p 0 0 wr HA.out.2 hlt hl).mono ?_
    rintro e w1 ⟨rfl, k1⟩
    go_wp2
    go_ret
    refine ⟨ret_B ?_, HK.out.2.trans' k1⟩
    rw [hgo.out, ← HK.out.1, HA.out.1]; rfl
   | true =>
    have hr := runeF_ok ho
    rw [ho, Bool.true_and] at hall
    generalize hd : WX.dec (l.drop p) = d at *
    obtain ⟨r, m⟩ := d
    simp only at hw hall
    have h0 : ((m : Int) == 0) = false := by simp; omega
    have hm : (p : Int) + m ≤ l.length := by omega
    have HA := Lib.hid (And.intro hall hr)
    have HW := Lib.hid hw
    clear ho hr hall hw hne hd
    cases hpl : WX.plainN r with
    | false =>
     have HP := Lib.hid hpl
     clear hpl
     go_wp2_with (fail)
     refine (rrune_at l p r m wr HA.out.2 hlt hl).mono ?_
     rintro e w1 ⟨rfl, k1⟩
     go_wp2_with (fail)
     refine (rplain_at r false _ HP.out).mono ?_
     rintro e w2 ⟨rfl, rfl⟩
     go_wp2
     go_ret
     refine ⟨ret_B ?_, HK.out.2.trans' k1⟩
     rw [hgo.out, ← HK.out.1, HA.out.1, HP.out]; rfl
    | true =>
     have HP := Lib.hid hpl
     clear hpl
     cases h47 : ((r : Int) == 47) with
     | true =>
      go_wp2_with (fail)
      refine (rrune_at l p r m wr HA.out.2 hlt hl).mono ?_
      rintro e w1 ⟨rfl, k1⟩
      go_wp2_with (fail)
      refine (rplain_at r true _ HP.out).mono ?_
      rintro e w2 ⟨rfl, rfl⟩
      go_wp2
      go_ret
      refine ⟨ret_B ?_, HK.out.2.trans' k1⟩
      have : r = 47 := by simp at h47; omega
      rw [hgo.out, ← HK.out.1, HA.out.1, HP.out, this]; rfl
     | false =>
      go_wp2_with (fail)
      refine (rrune_at l p r m wr HA.out.2 hlt hl).mono ?_
      rintro e w1 ⟨rfl, k1⟩
      go_wp2_with (fail)
      refine (rplain_at r true _ HP.out).mono ?_
      rintro e w2 ⟨rfl, rfl⟩
      go_wp2
      go_roundw
      case rel =>
       have hr47 : r ≠ 47 := by simp at h47; omega
       refine ⟨p + m, by have := HW.out; omega, by go_num, ?_, HK.out.2.trans' k1⟩
       rw [← HK.out.1, HA.out.1, HP.out]; simp [hr47]
      case measure => have := HW.out; simp [intOf]; omega
  ·obtain rfl : p = l.length := by omega
   go_wp2
   go_ret
   refine ⟨ret_B ?_, HK.out.2⟩
   rw [hgo.out, ← HK.out.1, List.drop_length]; rfl
theorem rname_at (l : List UInt8) (b : Bool) (w : World) (h : WX.nameB l = b) (hl : l.length ≤ 4611686018427387904) :
  Calls Tryz.prog 135 #[S l] w fun e w' => e = .returned (.bool b) ∧ Kept [] w w' := h ▸ rname_any l w hl
def slashed (ns : List (List UInt8)) : List UInt8 := ns.flatMap (47 :: ·)
theorem slashed_snoc (ns : List (List UInt8)) (x : List UInt8) : slashed (ns ++ [x]) = slashed ns ++ (47 :: x) := by simp [slashed]
theorem slashed_inter (ns : List (List UInt8)) (h : ns ≠ []) : slashed ns = 47 :: [47].intercalate ns := by
 induction ns with
 | nil => exact absurd rfl h
 | cons n r ih =>
  cases r with
  | nil => simp [slashed, List.intercalate, List.intersperse]
  | cons m r =>
   have := ih (by simp)
   simp [slashed, List.intercalate, List.intersperse] at this ⊢
   exact this
theorem slashed_len (ns : List (List UInt8)) (h : ∀ n ∈ ns, n.length ≤ 24) : (slashed ns).length ≤ 25 * ns.length := by
 induction ns with
 | nil => simp [slashed]
 | cons n r ih =>
  have h1 := ih fun x hx => h x (by simp [hx])
  have h2 := h n (by simp)
  simp only [slashed, List.flatMap_cons, List.length_append, List.length_cons] at h1 ⊢
  omega
theorem rjoin_any (v : Value) (ns : List (List UInt8)) (w : World) (h : StrsAt w v ns) (hm : ∀ n ∈ ns, n.length ≤ 4611686018427387904) :
  Calls Tryz.prog 105 #[v] w fun e w' => e = .returned (.tuple #[S (WX.joinF ns).1, I (WX.joinF ns).2]) ∧ Kept [] w w' := by
 have HS := Lib.hid (And.intro h hm)
 obtain ⟨p, cap, rfl, h1, h2, hnn, h3⟩ := h
 clear hm
 have hx : (ns.length : Int) ≤ 140737488355328 := by omega
 by_cases h0 : ns = []
 ·subst h0
  have hf : Hid (WX.joinF [] = ([47], 0)) := by unfold Hid; rfl
  clear h3
  go_enter Tryz.func105, Tryz.ntmps105
  go_wp2
  go_loop [4, 5] (fun s i => i = I 0 ∧ s = S []) (fun _ _ => 0)
  case atStart => exact ⟨rfl, rfl⟩
  case round =>
   obtain ⟨rfl, rfl⟩ := hrel
   go_wp2
   go_ret2
   exact ⟨by rw [hf.out]; rfl, Kept.refl _ _⟩
 ·obtain ⟨b, o, rfl, hc⟩ := h3 h0
  have HC := Lib.hid (And.intro hc h0)
  clear h3 hc h0 hnn
  go_enter Tryz.func105, Tryz.ntmps105
  go_wp2
  go_loopw [4, 5] (fun s i wr => ∃ k : Nat, k ≤ ns.length ∧ k ≤ 8 ∧ i = I k ∧ s = S (slashed (ns.take k)) ∧ (ns.take k).all WX.nameB = true ∧ Kept [] w wr) (fun _ i _ => ns.length - (intOf i).toNat)
  case atStart => exact ⟨0, by omega, by omega, rfl, rfl, rfl, Kept.refl _ _⟩
  case round =>
   obtain ⟨k, hk, hk8, rfl, rfl, ht, hkw⟩ := hrel
   have hsl : (slashed (ns.take k)).length ≤ 200 := by
    have := slashed_len (ns.take k) fun n hn => WX.name_len (List.all_eq_true.1 ht n hn)
    rw [List.length_take] at this; omega
   by_cases hlt : k < ns.length
   ·have hlt' : (k : Int) < ns.length := by omega
    by_cases h8 : 8 ≤ k
    ·have h8' : (8 : Int) ≤ k := by omega
     have hf := Lib.hid (joinF_no (ns := ns) (.inl (by omega)))
     have HT := Lib.hid hkw
     clear ht hkw
     go_wp2
     go_ret2
     exact ⟨by rw [hf.out]; rfl, HT.out⟩
    ·have h8' : ¬ (8 : Int) ≤ k := by omega
     have x1 := hkw.cellOf (HC.out.1 k hlt)
     have HT := Lib.hid (And.intro ht hkw)
     clear ht hkw
     obtain ⟨x, hx1⟩ : ∃ x, ns.getD k [] = x := ⟨_, rfl⟩
     rw [hx1] at x1
     have HX := Lib.hid hx1
     have hxl : x.length ≤ 4611686018427387904 := by rw [← hx1, getD_eq _ _ _ hlt]; exact HS.out.2 _ (List.getElem_mem hlt)
     clear hx1
     cases hb : WX.nameB x with
     | true =>
      have hxs := WX.name_len hb
      have HB := Lib.hid hb
      clear hb
      go_wp2_with (fail)
      refine (rname_at x true wr HB.out hxl).mono ?_
      rintro e w1 ⟨rfl, k1⟩
      have x2 := k1.cellOf x1
      have K1 := Lib.hid (HT.out.2.trans' k1)
      clear k1 x1
      go_wp2
      go_roundw
      case rel =>
       refine ⟨k + 1, by omega, by omega, by go_num, ?_, ?_, K1.out⟩
       ·rw [take_getD ns k [] hlt, HX.out, slashed_snoc]
       ·rw [take_getD ns k [] hlt, List.all_append, HT.out.1, HX.out]
        simp [HB.out]
      case measure => simp [intOf]; omega
     | false =>
      have hf := Lib.hid (joinF_no (.inr (all_take_no hlt (by rw [HX.out]; exact hb))))
      have HB := Lib.hid hb
      clear hb
      go_wp2_with (fail)
      refine (rname_at x false wr HB.out hxl).mono ?_
      rintro e w1 ⟨rfl, k1⟩
      go_wp2
      go_ret2
      exact ⟨by rw [hf.out]; rfl, HT.out.2.trans' k1⟩
   ·obtain rfl : k = ns.length := by omega
    rw [List.take_length] at ht hsl ⊢
    have hf : Hid (WX.joinF ns = (47 :: [47].intercalate ns, 0)) := by unfold Hid WX.joinF; rw [if_pos ⟨by omega, ht⟩]
    have hne : (slashed ns).isEmpty = false := by rw [slashed_inter ns HC.out.2]; rfl
    have HSL := Lib.hid (slashed_inter ns HC.out.2)
    have HT := Lib.hid (And.intro ht hkw)
    clear ht hkw
    go_wp2
    go_ret2
    refine ⟨?_, HT.out.2⟩
    rw [hf.out, ← HSL.out]; rfl
theorem pieces_none (a : List UInt8) (h : ∀ x ∈ a, x ≠ 47) : WX.pieces 47 a = [a] := by
 have := WX.pieces_clean 47 a [] h
 rw [List.append_nil] at this
 rw [this]; simp [WX.pieces]
theorem pieces_cut (a r : List UInt8) (h : ∀ x ∈ a, x ≠ 47) : WX.pieces 47 (a ++ 47 :: r) = a :: WX.pieces 47 r := by
 rw [WX.pieces_clean 47 a _ h]
 conv => lhs; unfold WX.pieces
 rw [if_pos rfl]; simp
theorem seg_cut (s : List UInt8) (f i : Nat) (hf : f ≤ i) (hi : i < s.length) (h : byteAt s i = 47) : s.drop f = (s.take i).drop f ++ 47 :: s.drop (i + 1) := by
 have h1 : s.drop i = 47 :: s.drop (i + 1) := by
  rw [List.drop_eq_getElem_cons hi, ← byteAt_eq s i hi, h]
 have h2 : s = s.take i ++ s.drop i := (List.take_append_drop i s).symm
 conv => lhs; rw [h2]
 rw [List.drop_append_of_le_length (by rw [List.length_take]; omega), h1]
theorem seg_snoc (s : List UInt8) (f i : Nat) (hf : f ≤ i) (hi : i < s.length) : (s.take (i + 1)).drop f = (s.take i).drop f ++ [byteAt s i] := by
 rw [take_byteAt s i hi, List.drop_append_of_le_length (by rw [List.length_take]; omega)]
def PathAt (s : List UInt8) (i f : Nat) (ps : List (List UInt8)) : Prop :=
 (i ≤ s.length ∧ 1 ≤ f ∧ f ≤ i ∧ (∀ x ∈ (s.take i).drop f, x ≠ 47) ∧ ps ++ WX.pieces 47 (s.drop f) = WX.pieces 47 (s.drop 1)) ∨ (i = s.length + 1 ∧ f = s.length + 1 ∧ ps = WX.pieces 47 (s.drop 1))
theorem PathAt.len {s : List UInt8} {i f : Nat} {ps : List (List UInt8)} (h : PathAt s i f ps) : ps.length ≤ (WX.pieces 47 (s.drop 1)).length := by
 rcases h with ⟨_, _, _, _, h⟩ | ⟨_, _, h⟩
 ·have := congrArg List.length h; rw [List.length_append] at this; omega
 ·rw [h]; exact Nat.le_refl _
theorem PathAt.mem {s : List UInt8} {i f : Nat} {ps : List (List UInt8)} (h : PathAt s i f ps) : ∀ p ∈ ps, p.length ≤ s.length := by
 intro p hp
 have : p ∈ WX.pieces 47 (s.drop 1) := by
  rcases h with ⟨_, _, _, _, h⟩ | ⟨_, _, h⟩
  ·rw [← h]; exact List.mem_append_left _ hp
  ·rw [← h]; exact hp
 have := pieces_mem _ p this
 rw [List.length_drop] at this; omega
theorem PathAt.last {s : List UInt8} {f : Nat} {ps : List (List UInt8)} (h : PathAt s s.length f ps) : PathAt s (s.length + 1) (s.length + 1) (ps ++ [(s.take s.length).drop f]) := by
 rcases h with ⟨_, _, _, h4, h5⟩ | ⟨h, _, _⟩
 ·refine .inr ⟨rfl, rfl, ?_⟩
  rw [List.take_length] at h4 ⊢
  rw [pieces_none _ h4] at h5; exact h5
 ·omega
theorem PathAt.cut {s : List UInt8} {i f : Nat} {ps : List (List UInt8)} (h : PathAt s i f ps) (hi : i < s.length) (h47 : byteAt s i = 47) : PathAt s (i + 1) (i + 1) (ps ++ [(s.take i).drop f]) := by
 rcases h with ⟨h1, h2, h3, h4, h5⟩ | ⟨h, _, _⟩
 ·refine .inl ⟨hi, by omega, Nat.le_refl _, by simp, ?_⟩
  rw [seg_cut s f i h3 hi h47, pieces_cut _ _ h4] at h5
  rw [← h5]; simp
 ·omega
theorem PathAt.go {s : List UInt8} {i f : Nat} {ps : List (List UInt8)} (h : PathAt s i f ps) (hi : i < s.length) (h47 : byteAt s i ≠ 47) : PathAt s (i + 1) f ps := by
 rcases h with ⟨h1, h2, h3, h4, h5⟩ | ⟨h, _, _⟩
 ·refine .inl ⟨hi, h2, by omega, ?_, h5⟩
  intro x hx
  rw [seg_snoc s f i h3 hi] at hx
  rcases List.mem_append.1 hx with hx | hx
  ·exact h4 x hx
  ·simp at hx; subst hx; exact h47
 ·omega
theorem path_ref {s : List UInt8} {i f : Nat} {ps : List (List UInt8)} (h : PathAt s i f ps) (h47 : s ≠ [47]) (h0 : s ≠ []) (he : i = s.length + 1 ∨ 10 ≤ ps.length) :
  ((WX.joinF ps).2 = 0 ∧ (WX.joinF ps).1 = s → WX.pathF s = some ps) ∧ (¬ ((WX.joinF ps).2 = 0 ∧ (WX.joinF ps).1 = s) → WX.pathF s = none) := by
 rcases he with he | he
 ·have hp : ps = WX.pieces 47 (s.drop 1) := by
   rcases h with ⟨h1, _⟩ | ⟨_, _, h⟩
   ·omega
   ·exact h
  refine ⟨fun ⟨h1, h2⟩ => by rw [← h2]; exact WX.path_join h1, fun hn => ?_⟩
  cases hc : WX.pathF s with
  | none => rfl
  | some ns =>
   exfalso
   have hj := WX.join_path hc
   have : ns = ps := by
    unfold WX.pathF at hc
    rw [if_neg h47] at hc
    split at hc
    ·cases hc; exact hp.symm
    ·cases hc
   rw [this] at hj
   apply hn; rw [hj]; exact ⟨rfl, rfl⟩
 ·have hl := h.len
  have hno : WX.joinF ps = ([], 10) := joinF_no (.inl (by omega))
  refine ⟨fun ⟨h1, _⟩ => by rw [hno] at h1; simp at h1, fun _ => path_no h47 (.inr (.inl (by omega)))⟩
def RPathPost (w : World) (res : Option (List (List UInt8))) (e : Ending) (w' : World) : Prop :=
 (match res with | none => e = .returned (.tuple #[.slice none 0 0, I 10]) | some ns => ∃ v, e = .returned (.tuple #[v, I 0]) ∧ StrsAt w' v ns) ∧ Kept [] w w'
theorem RPathPost.no {w w' : World} {res : Option (List (List UInt8))} (h : res = none) (k : Kept [] w w') : RPathPost w res (.returned (.tuple #[.slice none 0 0, I 10])) w' := by subst h; exact ⟨rfl, k⟩
theorem RPathPost.yes {w w' : World} {res : Option (List (List UInt8))} {ns : List (List UInt8)} {v : Value} (h : res = some ns) (hn : StrsAt w' v ns) (k : Kept [] w w') : RPathPost w res (.returned (.tuple #[v, I 0])) w' := by subst h; exact ⟨⟨v, rfl, hn⟩, k⟩
theorem rpath_any (s : List UInt8) (w : World) (hs : s.length ≤ 1048576) :
    Calls Tryz.prog 81 #[S s] w (RPathPost w (WX.pathF s)) := by
  obtain ⟨i0, hi, hz0, hz1, hz2⟩ := info_parts str_info
  have hsl : (s.length : Int) ≤ 1048576 := by omega
  by_cases h0 : s = []
  · subst h0
    have hf : Hid (WX.pathF [] = none) := by unfold Hid; rfl
    have HO := own_strs (ss := []) (own_empty w 9) (by simp)
    have HO2 := Lib.hid HO
    clear HO
    go_enter Tryz.func81, Tryz.ntmps81
    go_wp2
    go_loop [4, 5, 6] (fun v f i => i = I 1 ∧ f = I 1 ∧ v = .slice (some ⟨w.heap.size, 0, none⟩) 0 0) (fun _ _ _ => 0)
    case atStart => exact ⟨rfl, rfl, rfl⟩
    case round =>
      obtain ⟨rfl, rfl, rfl⟩ := hrel
      go_wp2_with (fail)
      refine (rjoin_any _ [] _ HO2.out (by simp)).mono ?_
      rintro e w1 ⟨rfl, k1⟩
      rw [show WX.joinF [] = ([47], 0) from rfl]
      go_wp2
      go_ret2
      exact RPathPost.no hf.out (((Kept.refl _ _).alloc _).trans' k1)
  by_cases h47 : s = [47]
  · subst h47
    have hf : Hid (WX.pathF [47] = some []) := by unfold Hid; rfl
    have HO := own_strs (ss := []) (own_empty w 9) (by simp)
    have HO2 := Lib.hid HO
    clear HO h0
    go_enter Tryz.func81, Tryz.ntmps81
    go_wp2
    go_loop [4, 5, 6] (fun v f i => i = I 1 ∧ f = I 1 ∧ v = .slice (some ⟨w.heap.size, 0, none⟩) 0 0) (fun _ _ _ => 0)
    case atStart => exact ⟨rfl, rfl, rfl⟩
    case round =>
      obtain ⟨rfl, rfl, rfl⟩ := hrel
      go_wp2_with (fail)
      refine (rjoin_any _ [] _ HO2.out (by simp)).mono ?_
      rintro e w1 ⟨rfl, k1⟩
      rw [show WX.joinF [] = ([47], 0) from rfl]
      go_wp2
      go_ret2
      exact RPathPost.yes hf.out (HO2.out.kept k1) (((Kept.refl _ _).alloc _).trans' k1)
  have e47 : (s == [47]) = false := by simpa using h47
  have hpos : (1 : Int) ≤ s.length := by have := List.length_pos_iff.2 h0; omega
  have HN := Lib.hid (And.intro h0 h47)
  have HO := Lib.hid (own_empty w 9)
  have HST : Hid (PathAt s 1 1 []) := .inl ⟨by omega, Nat.le_refl _, Nat.le_refl _, by intro x hx; simp at hx, rfl⟩
  clear h0 h47
  go_enter Tryz.func81, Tryz.ntmps81
  go_wp2
  go_loopw [4, 5, 6] (fun v f i wr => ∃ (k g : Nat) (ps : List (List UInt8)) (p : Option Addr) (c : Nat), i = I k ∧ f = I g ∧ v = .slice p ps.length c ∧ 1 ≤ k ∧ PathAt s k g ps ∧ ps.length ≤ 10 ∧ wr.ownsRow w.heap.size 9 1 (.slice p ps.length c) ps.length (ps.map S) ∧ Kept [] w wr) (fun _ _ i _ => s.length + 2 - (intOf i).toNat)
  case atStart => exact ⟨1, 1, [], _, 0, rfl, rfl, rfl, Nat.le_refl _, HST.out, by simp, HO.out, (Kept.refl _ _).alloc _⟩
  case round =>
    obtain ⟨k, g, ps, p, c, rfl, rfl, rfl, hk1, hpa, hpl, hown, hkw⟩ := hrel
    have hpl' : (ps.length : Int) ≤ 10 := by omega
    have hkl : k ≤ s.length + 1 := by rcases hpa with h | h; exact Nat.le_succ_of_le h.1; omega
    have HK := Lib.hid (And.intro hpa (And.intro hown hkw))
    have Z := hkw.size
    clear hpa hown hkw
    by_cases hgo : k ≤ s.length ∧ ps.length < 10
    · obtain ⟨hks, hp10⟩ := hgo
      have hks' : (k : Int) ≤ s.length := by omega
      have hp10' : (ps.length : Int) < 10 := by omega
      have hgk : 1 ≤ g ∧ g ≤ k := by rcases HK.out.1 with h | h; exact ⟨h.2.1, h.2.2.1⟩; omega
      have hgk' : (g : Int) ≤ k := by omega
      obtain ⟨hg1, hg2⟩ := hgk
      have app : ∀ (x : List UInt8) (k' g' : Nat), PathAt s k' g' (ps ++ [x]) → 1 ≤ k' → ∀ (v' : Value) (w' : World), w'.ownsRow w.heap.size 9 1 v' (ps.length + 1) (ps.map S ++ [S x]) → (wr.alloc (.cells #[S x] 9)).grownBy w' (Value.slice p ps.length c).ownBlock →
          ∃ (k g : Nat) (ps : List (List UInt8)) (p : Option Addr) (c : Nat), I k' = I k ∧ I g' = I g ∧ v' = .slice p ps.length c ∧ 1 ≤ k ∧ PathAt s k g ps ∧ ps.length ≤ 10 ∧ w'.ownsRow w.heap.size 9 1 (.slice p ps.length c) ps.length (ps.map S) ∧ Kept [] w w' := by
        intro x k' g' h1 h2 v' w' h3 h4
        have h5 : w'.ownsRow w.heap.size 9 1 v' (ps ++ [x]).length ((ps ++ [x]).map S) := by
          rw [show (ps ++ [x]).length = ps.length + 1 by simp, show (ps ++ [x]).map S = ps.map S ++ [S x] by simp]; exact h3
        obtain ⟨p', c', e, _⟩ := own_strs h5 (by simp; omega)
        subst e
        refine ⟨k', g', ps ++ [x], p', c', rfl, rfl, rfl, h2, h1, by simp; omega, h5, (HK.out.2.2.alloc _).grown h4 (fun q hq => (HK.out.2.1.lt q hq).1)⟩
      have APP := Lib.hid app
      clear app
      by_cases hl : k = s.length
      · subst hl
        have hlb : ((s.length : Int) == s.length) = true := by simp
        have hla0 := HK.out.1.last
        rw [List.take_length] at hla0
        have hla := Lib.hid hla0
        clear hla0
        go_wp2_with (at_builtin
                     refine wpList_append_own _ rfl (.tmp 35) (.tmp 40) _ rfl w.heap.size 9 i0 (.string ⟨#[]⟩) 1 16 Tryz.underlying53 hi hz0 hz1 hz2 rfl (by decide) (.slice p ps.length c) ps.length (ps.map S) rfl (HK.out.2.1.alloc _) ⟨wr.heap.size, 0, none⟩ 1 1 [S _] rfl rfl (cell_one_new _ _ _) (by intro u hu; simp at hu; subst hu; rfl) (by unfold maxLen; omega) (by omega) (by simp; omega) ?_
                     intro v1 wa own1 gr1 _)
        go_roundw
        case rel =>
          obtain ⟨k', g', ps', p', c', e1, e2, rest⟩ := APP.out _ _ _ hla.out (by omega) v1 wa own1 gr1
          exact ⟨k', g', ps', p', c', by rw [← e1]; go_num, by rw [← e2]; go_num, rest⟩
        case measure => (simp [intOf]; try omega)
      · have hlb : ((k : Int) == s.length) = false := by simp; omega
        have hkl' : (k : Int) < s.length := by omega
        have hklt : k < s.length := by omega
        by_cases h7 : byteAt s k = 47
        · have hb7 : (((byteAt s k).toNat : Int) == 47) = true := by rw [h7]; rfl
          have hla := Lib.hid (HK.out.1.cut hklt h7)
          clear h7
          go_wp2_with (at_builtin
                       refine wpList_append_own _ rfl (.tmp 35) (.tmp 40) _ rfl w.heap.size 9 i0 (.string ⟨#[]⟩) 1 16 Tryz.underlying53 hi hz0 hz1 hz2 rfl (by decide) (.slice p ps.length c) ps.length (ps.map S) rfl (HK.out.2.1.alloc _) ⟨wr.heap.size, 0, none⟩ 1 1 [S _] rfl rfl (cell_one_new _ _ _) (by intro u hu; simp at hu; subst hu; rfl) (by unfold maxLen; omega) (by omega) (by simp; omega) ?_
                       intro v1 wa own1 gr1 _)
          go_roundw
          case rel =>
            obtain ⟨k', g', ps', p', c', e1, e2, rest⟩ := APP.out _ _ _ hla.out (by omega) v1 wa own1 gr1
            exact ⟨k', g', ps', p', c', by rw [← e1]; go_num, by rw [← e2]; go_num, rest⟩
          case measure => (simp [intOf]; try omega)
        · have hb7 : (((byteAt s k).toNat : Int) == 47) = false := by
            rw [beq_eq_false_iff_ne]; intro h; apply h7; rw [← UInt8.toNat_inj]; have : (47 : UInt8).toNat = 47 := rfl; omega
          have hla := Lib.hid (HK.out.1.go hklt h7)
          clear h7
          go_wp2
          go_roundw
          case rel => exact ⟨k + 1, g, ps, p, c, by go_num, rfl, rfl, by omega, hla.out, hpl, HK.out.2.1, HK.out.2.2⟩
          case measure => (simp [intOf]; try omega)
    · have hend : k = s.length + 1 ∨ 10 ≤ ps.length := by omega
      have hmem : ∀ n ∈ ps, n.length ≤ 4611686018427387904 := fun n hn => by have := HK.out.1.mem n hn; omega
      have SA := own_strs HK.out.2.1 (by omega)
      obtain ⟨py, pn⟩ := path_ref HK.out.1 HN.out.2 HN.out.1 hend
      obtain ⟨o, hj⟩ : ∃ o, WX.joinF ps = o := ⟨_, rfl⟩
      obtain ⟨o, e⟩ := o
      rw [hj] at py pn
      have rj := rjoin_any (.slice p ps.length c) ps wr SA hmem
      rw [hj] at rj
      have HH := Lib.hid (And.intro py (And.intro pn (And.intro SA rj)))
      clear py pn SA hj rj hmem hend
      simp only at *
      by_cases hks : k ≤ s.length
      · have hks' : (k : Int) ≤ s.length := by omega
        have hp10 : ¬ (ps.length : Int) < 10 := by omega
        by_cases he : e = 0
        · by_cases ho : o = s
          · have hob : (o == s) = true := by simpa using ho
            have hf := Lib.hid (HH.out.1 ⟨he, ho⟩)
            subst he
            clear ho hgo
            go_wp2_with (fail)
            refine HH.out.2.2.2.mono ?_
            rintro e w1 ⟨rfl, k1⟩
            go_wp2
            go_ret2
            exact RPathPost.yes hf.out (HH.out.2.2.1.kept k1) (HK.out.2.2.trans' k1)
          · have hob : (o == s) = false := by simpa using ho
            have hf := Lib.hid (HH.out.2.1 (fun h => ho h.2))
            subst he
            clear ho hgo
            go_wp2_with (fail)
            refine HH.out.2.2.2.mono ?_
            rintro e w1 ⟨rfl, k1⟩
            go_wp2
            go_ret2
            exact RPathPost.no hf.out (HK.out.2.2.trans' k1)
        · have heb : (e == 0) = false := by simpa using he
          have heb2 : (e != 0) = true := by simpa using he
          have hf := Lib.hid (HH.out.2.1 (fun h => he h.1))
          clear he hgo
          go_wp2_with (fail)
          refine HH.out.2.2.2.mono ?_
          rintro e w1 ⟨rfl, k1⟩
          go_wp2
          go_ret2
          exact RPathPost.no hf.out (HK.out.2.2.trans' k1)
      · have hks' : ¬ (k : Int) ≤ s.length := by omega
        by_cases he : e = 0
        · by_cases ho : o = s
          · have hob : (o == s) = true := by simpa using ho
            have hf := Lib.hid (HH.out.1 ⟨he, ho⟩)
            subst he
            clear ho hgo
            go_wp2_with (fail)
            refine HH.out.2.2.2.mono ?_
            rintro e w1 ⟨rfl, k1⟩
            go_wp2
            go_ret2
            exact RPathPost.yes hf.out (HH.out.2.2.1.kept k1) (HK.out.2.2.trans' k1)
          · have hob : (o == s) = false := by simpa using ho
            have hf := Lib.hid (HH.out.2.1 (fun h => ho h.2))
            subst he
            clear ho hgo
            go_wp2_with (fail)
            refine HH.out.2.2.2.mono ?_
            rintro e w1 ⟨rfl, k1⟩
            go_wp2
            go_ret2
            exact RPathPost.no hf.out (HK.out.2.2.trans' k1)
        · have heb : (e == 0) = false := by simpa using he
          have heb2 : (e != 0) = true := by simpa using he
          have hf := Lib.hid (HH.out.2.1 (fun h => he h.1))
          clear he hgo
          go_wp2_with (fail)
          refine HH.out.2.2.2.mono ?_
          rintro e w1 ⟨rfl, k1⟩
          go_wp2
          go_ret2
          exact RPathPost.no hf.out (HK.out.2.2.trans' k1)
end Go.Proofs.YteplbljjlbdhaaaGreatDoor
